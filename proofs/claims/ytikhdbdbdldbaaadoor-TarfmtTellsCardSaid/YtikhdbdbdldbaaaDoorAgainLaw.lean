/- What is parsed may be printed, but for its room. Plain lists. -/
import Derived.Test.YtikhdbdbdldbaaaDoorParTar
namespace Go.Proofs.YtikhdbdbdldbaaaDoor

theorem step_right {rest : List UInt8} {e : EntD} {n : Nat} (h : stepL rest = .ent e n) : rightL e = 0 := by
  unfold stepL at h
  split at h
  · cases h
  · split at h
    · split at h <;> cases h
    · cases hr : readL (rest.take 512) with
      | none => rw [hr] at h; cases h
      | some p =>
        obtain ⟨e0, m⟩ := p
        rw [hr] at h
        obtain ⟨h1, h2, h3, h4⟩ := readL_some hr
        unfold stepE at h
        simp only at h
        split at h
        · cases h
        · simp only [StepP.ent.injEq] at h
          obtain ⟨rfl, _⟩ := h
          refine right_data h4 _ (by simp; omega) ?_
          rcases h3 with h3 | h3
          · exact .inl (by rw [h3]; simp)
          · exact .inr h3
theorem places_right (b : List UInt8) : ∀ (k a : Nat) (p : PlD), p ∈ placesL b k a → p.ok = true → rightL p.e = 0 := by
  intro k
  induction k with
  | zero => intro a p hp; simp [placesL] at hp
  | succ k ih =>
    intro a p hp hok
    cases hs : stepL (b.drop a) with
    | done => rw [places_succ_done hs] at hp; simp at hp
    | bad =>
      rw [places_succ_bad hs] at hp
      simp at hp
      subst hp
      cases hok
    | ent e n =>
      rw [places_succ_ent hs] at hp
      rcases List.mem_cons.1 hp with rfl | hp
      · exact step_right hs
      · exact ih _ p hp hok
theorem parseP_ok (ps : List PlD) : ∀ (out : List EntD), (parseP ps out).2.1 = 0 → out.length ≤ 256 → (∀ p ∈ ps, p.ok = true) ∧ (parseP ps out).1 = out ++ ps.map (·.e) ∧ out.length + ps.length ≤ 256 := by
  induction ps with
  | nil => intro out h hl; exact ⟨by simp, by simp [parseP], by simpa using hl⟩
  | cons p ps ih =>
    intro out h hl
    simp only [parseP] at h ⊢
    split at h
    · cases h
    · rename_i hn
      rw [if_neg hn]
      simp only [not_or] at hn
      obtain ⟨h1, h2, h3⟩ := ih _ h (by simp; omega)
      refine ⟨?_, by rw [h2]; simp, by simp at h3 ⊢; omega⟩
      intro q hq
      rcases List.mem_cons.1 hq with rfl | hq
      · simpa using hn.1
      · exact h1 q hq
theorem parseP_err (ps : List PlD) : ∀ (out : List EntD), (parseP ps out).2.1 ≠ 0 → (parseP ps out).1 = [] := by
  induction ps with
  | nil => intro out h; exact absurd rfl h
  | cons p ps ih =>
    intro out h
    simp only [parseP] at h ⊢
    split
    · rfl
    · rename_i hn
      rw [if_neg hn] at h
      exact ih _ h
theorem parse_err {b : List UInt8} (h : (parseL b).2.1 ≠ 0) : (parseL b).1 = [] := by
  unfold parseL at h ⊢
  split
  · rfl
  · rename_i hn
    rw [if_neg hn] at h
    exact parseP_err _ _ h
theorem parse_right {b : List UInt8} (h : (parseL b).2.1 = 0) : (∀ e ∈ (parseL b).1, rightL e = 0) ∧ (parseL b).1.length ≤ 256 := by
  unfold parseL at h ⊢
  split at h
  · cases h
  · rename_i hn
    rw [if_neg hn]
    obtain ⟨h1, h2, h3⟩ := parseP_ok _ _ h (by simp)
    rw [h2]
    refine ⟨?_, by simpa using h3⟩
    intro e he
    simp only [List.nil_append] at he
    obtain ⟨p, hp, rfl⟩ := List.mem_map.1 he
    exact places_right b _ _ p hp (h1 p hp)
theorem firstBad_none {es : List EntD} (h : ∀ e ∈ es, rightL e = 0) : firstBad es = none := by
  induction es with
  | nil => rfl
  | cons e es ih =>
    simp only [firstBad]
    rw [if_pos (h e (by simp))]
    exact ih (fun x hx => h x (by simp [hx]))
theorem print_room {es : List EntD} (h : ∀ e ∈ es, rightL e = 0) (hne : (printL es).2 ≠ 0) : (printL es).2 = 6 := by
  unfold printL at hne ⊢
  rw [firstBad_none h] at hne ⊢
  simp only at hne ⊢
  split
  · rfl
  · rename_i h2
    rw [if_neg h2] at hne
    split
    · rename_i h3
      rw [if_pos h3] at hne
      exact absurd rfl hne
    · rfl
end Go.Proofs.YtikhdbdbdldbaaaDoor
