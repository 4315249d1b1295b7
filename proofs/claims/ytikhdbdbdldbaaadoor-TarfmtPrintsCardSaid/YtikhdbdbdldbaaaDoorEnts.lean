/- A slice of entries, read: five cells an entry; each entry's data reads as bytes. -/
import Derived.Test.YtikhdbdbdldbaaaDoorHeader
namespace Go.Proofs.YtikhdbdbdldbaaaDoor
open Go.RowKit

/-- An entry's cells. -/
def eC (e : EntD) (v : Value) : List Value := [.string (bs e.name), .int .i64 e.kind, .int .i64 e.mode, .string (bs e.link), v]
/-- A slice of entries, their data in blocks below B. -/
def RdEs (w : World) (v : Value) (es : List EntD) : Prop :=
  ∃ a c, v = .slice a es.length c ∧ es.length ≤ c ∧ c ≤ 9223372036854775807 ∧ ∀ (i : Nat) (e : EntD), es[i]? = some e → ∃ b off dv, a = some ⟨b, off, none⟩ ∧ w.rangeAt b (off + i * 5) (eC e dv) ∧ RdB w dv e.data
theorem RdEs.nil (w : World) : RdEs w (.slice none 0 0) [] := ⟨none, 0, rfl, Nat.le_refl _, by omega, fun i e h => by simp at h⟩
theorem RdEs.below {w w' : World} {v : Value} {es : List EntD} (h : RdEs w v es) (hb : Below w.heap.size w w') : RdEs w' v es := by
  obtain ⟨a, c, hv, h1, h2, hc⟩ := h
  refine ⟨a, c, hv, h1, h2, fun i x hi => ?_⟩
  obtain ⟨b, off, dv, ha, hr, hd⟩ := hc i x hi
  exact ⟨b, off, dv, ha, range_below hr hb, RdV.below hd hb⟩
theorem RdEs.slice {w : World} {v : Value} {es : List EntD} (h : RdEs w v es) : ∃ a c, v = .slice a es.length c ∧ es.length ≤ c ∧ c ≤ 9223372036854775807 := by
  obtain ⟨a, c, hv, h1, h2, _⟩ := h
  exact ⟨a, c, hv, h1, h2⟩
/-- One of them. -/
theorem RdEs.at {w : World} {a : Option Addr} {n c : Nat} {es : List EntD} (h : RdEs w (.slice a n c) es) (i : Nat) (e : EntD) (hi : es[i]? = some e) :
    ∃ b off dv, a = some ⟨b, off, none⟩ ∧ w.rangeAt b (off + i * 5) (eC e dv) ∧ RdB w dv e.data := by
  obtain ⟨a', c', hv, _, _, hc⟩ := h
  cases hv
  exact hc i e hi
theorem entry_size : (Tryd.prog.info? 31).map (·.size) = some 5 := by kernel_rfl
theorem run_load_entry {w : World} {g o : Nat} {e : EntD} {v : Value} (h : w.rangeAt g o (eC e v)) : (Instr.loadAt 31 (.pointer (some ⟨g, o, none⟩))).run Tryd.prog w = .ok (.agg (eC e v).toArray) w :=
  run_loadAt_mid w g o 31 (eC e v) _ h Tryd.underlying31 rfl entry_size
theorem rd_slice {w : World} {v : Value} {l : List UInt8} (h : RdB w v l) : ∃ a c, v = .slice a l.length c ∧ l.length ≤ c := by
  rcases h with ⟨rfl, h0⟩ | ⟨ad, c, rfl, hle, _⟩
  · obtain rfl : l = [] := by simpa using h0
    exact ⟨none, 0, rfl, by simp⟩
  · exact ⟨some ad, c, by simp, by simpa using hle⟩
/-- One of them, cell by cell. -/
theorem RdEs.cells {w : World} {a : Option Addr} {n c : Nat} {es : List EntD} (h : RdEs w (.slice a n c) es) (i : Nat) (e : EntD) (hi : es[i]? = some e) :
    ∃ b off da dc, a = some ⟨b, off, none⟩ ∧ w.cell? ⟨b, off + i * 5, none⟩ = some (.string (bs e.name)) ∧ w.cell? ⟨b, off + i * 5 + 1, none⟩ = some (.int .i64 e.kind) ∧ w.cell? ⟨b, off + i * 5 + 2, none⟩ = some (.int .i64 e.mode) ∧
      w.cell? ⟨b, off + i * 5 + 3, none⟩ = some (.string (bs e.link)) ∧ w.cell? ⟨b, off + i * 5 + 4, none⟩ = some (.slice da e.data.length dc) ∧ RdB w (.slice da e.data.length dc) e.data := by
  obtain ⟨b, off, dv, ha, hrg, hrd⟩ := h.at i e hi
  obtain ⟨da, dc, rfl, _⟩ := rd_slice hrd
  exact ⟨b, off, da, dc, ha, hrg 0 _ rfl, hrg 1 _ rfl, hrg 2 _ rfl, hrg 3 _ rfl, hrg 4 _ rfl, hrd⟩
/-- Printing's first loop: the first entry that may not be printed. -/
theorem firstBad_take {es : List EntD} {j : Nat} {e : EntD} (h : es[j]? = some e) (h0 : firstBad (es.take j) = none) : firstBad (es.take (j + 1)) = if rightL e = 0 then none else some (rightL e) := by
  induction es generalizing j with
  | nil => simp at h
  | cons x es ih =>
    cases j with
    | zero => simp at h; subst h; simp [firstBad]
    | succ j =>
      simp only [List.take_succ_cons, firstBad] at h0 ⊢
      split at h0
      · rename_i hx
        rw [if_pos hx]
        exact ih (by simpa using h) h0
      · cases h0
theorem firstBad_some {es : List EntD} {j : Nat} {f : Int} (h : firstBad (es.take j) = some f) : firstBad es = some f := by
  induction es generalizing j with
  | nil => simp [firstBad] at h
  | cons x es ih =>
    cases j with
    | zero => simp [firstBad] at h
    | succ j =>
      simp only [List.take_succ_cons, firstBad] at h ⊢
      split at h
      · rename_i hx
        rw [if_pos hx]
        exact ih h
      · rename_i hx
        rw [if_neg hx]; exact h
theorem firstBad_all {es : List EntD} (h : firstBad es = none) : ∀ e ∈ es, rightL e = 0 := by
  induction es with
  | nil => intro e he; simp at he
  | cons x es ih =>
    simp only [firstBad] at h
    split at h
    · rename_i hx
      intro e he
      rcases List.mem_cons.1 he with rfl | he
      · exact hx
      · exact ih h e he
    · cases h
theorem right_ok {e : EntD} (h : rightL e = 0) : (1 ≤ e.kind ∧ e.kind ≤ 4) ∧ (0 ≤ e.mode ∧ e.mode ≤ 4095) ∧ plainL e.name 255 = true ∧ (partedL e.name).isSome = true ∧ e.data.length ≤ 70656 ∧ e.link.length ≤ 100 := by
  unfold rightL at h
  split at h
  · cases h
  rename_i h1
  split at h
  · cases h
  rename_i h2
  split at h
  · cases h
  rename_i h3
  split at h
  · cases h
  rename_i h4
  simp only [not_or] at h2 h3
  refine ⟨by omega, by omega, by simpa using h2.1, by have := h2.2; cases hp : partedL e.name <;> simp [hp] at this ⊢, by omega, ?_⟩
  by_cases hk : e.kind = 3 ∨ e.kind = 4
  · have h5 : plainL e.link 100 = true := by
      have := h3.2.1
      simp only [not_and] at this
      simpa using this hk
    simp only [plainL, decide_eq_true_eq] at h5
    exact h5.2.1
  · have h6 : e.link = [] := by
      have := h3.1
      rw [decide_eq_false hk] at this
      simpa using this
    rw [h6]; simp
theorem header_len {e : EntD} (h : rightL e = 0) : (headerL e).length = 512 := by
  have hr := right_ok h
  obtain ⟨p, hp⟩ := Option.isSome_iff_exists.1 hr.2.2.2.1
  have hpl := parted_len hp
  unfold headerL
  rw [hp]
  simp only [Option.getD_some, List.length_append]
  rw [headA_len hpl.2, headB_len hr.2.2.2.2.2 hpl.1, octF_len _ _ (by omega)]
theorem filled_le (n : Nat) : n ≤ filledL n ∧ filledL n ≤ n + 511 := by unfold filledL; omega
theorem body_len {e : EntD} (h : rightL e = 0) : (bodyL e).length = 512 + filledL e.data.length := by
  unfold bodyL
  simp only [List.length_append, header_len h, zer_len]
  have := filled_le e.data.length
  omega
theorem bodies_len {es : List EntD} (h : ∀ e ∈ es, rightL e = 0) : (es.map bodyL).flatten.length ≤ 72000 * es.length := by
  induction es with
  | nil => simp
  | cons x es ih =>
    have h1 := body_len (h x (by simp))
    have h2 := (right_ok (h x (by simp))).2.2.2.2.1
    have h3 := filled_le x.data.length
    have h4 := ih (fun e he => h e (by simp [he]))
    simp only [List.map_cons, List.flatten_cons, List.length_append, List.length_cons]
    omega
end Go.Proofs.YtikhdbdbdldbaaaDoor
