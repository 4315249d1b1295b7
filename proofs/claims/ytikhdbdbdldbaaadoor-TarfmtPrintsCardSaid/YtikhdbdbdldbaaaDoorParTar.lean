/- What is printed is parsed as it was; cut, it is none; what is parsed may be printed. Plain lists. -/
import Derived.Test.YtikhdbdbdldbaaaDoorRdHdr
namespace Go.Proofs.YtikhdbdbdldbaaaDoor

theorem header_notZ {e : EntD} (h : rightL e = 0) : allZ (headerL e) = false := by
  have hr := right_ok h
  obtain ⟨p, hp⟩ := Option.isSome_iff_exists.1 hr.2.2.2.1
  obtain ⟨h1, h2⟩ := parted_lens hp
  cases hz : allZ (headerL e) with
  | false => rfl
  | true =>
    exfalso
    have hm : ∀ x ∈ fld (headerL e) (257, 8), x = 0 := by
      intro x hx
      unfold fld at hx
      have := List.mem_of_mem_drop (List.mem_of_mem_take hx)
      simpa using List.all_eq_true.1 hz x this
    rw [header_hdF hp, f_magic h1 h2 hr.2.2.2.2.2] at hm
    exact absurd (hm 0x75 (by simp [magicL])) (by decide)
theorem allZ_zer (n : Nat) : allZ (zer n) = true := by simp [allZ, zer]
/-- One step at an entry's own bytes, whatever comes behind. -/
theorem step_body {e : EntD} (h : rightL e = 0) (X : List UInt8) : stepL (bodyL e ++ X) = .ent e (512 + filledL e.data.length) := by
  have hl := header_len h
  have hf := filled_le e.data.length
  have hb := body_len h
  have ht : (bodyL e ++ X).take 512 = headerL e := by
    unfold bodyL
    rw [List.append_assoc, List.append_assoc]
    exact List.take_left' hl
  have hlen : (bodyL e ++ X).length = 512 + filledL e.data.length + X.length := by rw [List.length_append, hb]
  unfold stepL
  rw [if_neg (by rw [hlen]; omega), ht, header_notZ h, if_neg (by decide), read_header h]
  unfold stepE
  simp only
  have hd : ((bodyL e ++ X).drop 512).take e.data.length = e.data := by
    unfold bodyL
    rw [List.append_assoc, List.append_assoc, List.drop_left' hl, List.take_left' rfl]
  have hz : ((bodyL e ++ X).drop (512 + e.data.length)).take (filledL e.data.length - e.data.length) = zer (filledL e.data.length - e.data.length) := by
    unfold bodyL
    rw [List.append_assoc, List.drop_left' (by rw [List.length_append, hl]), List.take_left' (by simp [zer])]
  rw [if_neg (by rw [hlen, hz, allZ_zer]; simp), hd]
/-- The same, of what is cut: nothing right where not all of it is there. -/
theorem step_cut {e : EntD} (h : rightL e = 0) (X : List UInt8) (c : Nat) : stepL ((bodyL e ++ X).take c) = if c < 512 + filledL e.data.length then .bad else .ent e (512 + filledL e.data.length) := by
  have hl := header_len h
  have hf := filled_le e.data.length
  have hb := body_len h
  by_cases hc : c < 512 + filledL e.data.length
  · rw [if_pos hc]
    have hlen : ((bodyL e ++ X).take c).length = c := by rw [List.length_take, List.length_append, hb]; omega
    unfold stepL
    by_cases h5 : c < 512
    · rw [if_pos (by rw [hlen]; exact h5)]
    · have ht : ((bodyL e ++ X).take c).take 512 = headerL e := by
        rw [List.take_take, Nat.min_eq_left (by omega)]
        unfold bodyL
        rw [List.append_assoc, List.append_assoc]
        exact List.take_left' hl
      rw [if_neg (by rw [hlen]; exact h5), ht, header_notZ h, if_neg (by decide), read_header h]
      unfold stepE
      simp only
      rw [if_pos (.inl (by rw [hlen]; exact hc))]
  · rw [if_neg hc]
    have e1 : (bodyL e ++ X).take c = bodyL e ++ X.take (c - (512 + filledL e.data.length)) := by
      rw [List.take_append, hb, List.take_of_length_le (by rw [hb]; omega)]
    rw [e1]
    exact step_body h _
theorem zer_take (n c : Nat) : (zer n).take c = zer (min c n) := by simp [zer, List.take_replicate]
theorem step_end : stepL (zer 1024) = .done := by
  unfold stepL
  rw [if_neg (by rw [zer_len]; omega), if_pos (by rw [zer_take]; exact allZ_zer _), zer_len, if_neg (by rw [allZ_zer]; decide)]
theorem step_end_cut (c : Nat) (hc : c < 1024) : stepL ((zer 1024).take c) = .bad := by
  rw [zer_take, Nat.min_eq_left (by omega)]
  unfold stepL
  rw [zer_len]
  by_cases h5 : c < 512
  · rw [if_pos h5]
  · rw [if_neg h5, if_pos (by rw [zer_take]; exact allZ_zer _), if_pos (.inl hc)]
theorem places_succ_ent {b : List UInt8} {k a n : Nat} {e : EntD} (h : stepL (b.drop a) = .ent e n) : placesL b (k + 1) a = ⟨e, a, true⟩ :: placesL b k (a + n) := by
  show (match stepL (b.drop a) with | .done => [] | .bad => [badP a] | .ent e n => ⟨e, a, true⟩ :: placesL b k (a + n)) = _
  rw [h]
theorem places_succ_bad {b : List UInt8} {k a : Nat} (h : stepL (b.drop a) = .bad) : placesL b (k + 1) a = [badP a] := by
  show (match stepL (b.drop a) with | .done => [] | .bad => [badP a] | .ent e n => ⟨e, a, true⟩ :: placesL b k (a + n)) = _
  rw [h]
theorem places_succ_done {b : List UInt8} {k a : Nat} (h : stepL (b.drop a) = .done) : placesL b (k + 1) a = [] := by
  show (match stepL (b.drop a) with | .done => [] | .bad => [badP a] | .ent e n => ⟨e, a, true⟩ :: placesL b k (a + n)) = _
  rw [h]
def bodsL (es : List EntD) : List UInt8 := (es.map bodyL).flatten
theorem bodsL_cons (e : EntD) (es : List EntD) : bodsL (e :: es) = bodyL e ++ bodsL es := rfl
theorem parse_all {es : List EntD} (hr : ∀ e ∈ es, rightL e = 0) : ∀ (b : List UInt8) (a k : Nat) (out : List EntD), b.drop a = bodsL es ++ zer 1024 → es.length < k → out.length + es.length ≤ 256 → parseP (placesL b k a) out = (out ++ es, 0, 0) := by
  induction es with
  | nil =>
    intro b a k out hb hk ho
    obtain ⟨k, rfl⟩ : ∃ k', k = k' + 1 := ⟨k - 1, by omega⟩
    rw [places_succ_done (by rw [hb]; exact step_end)]
    simp [parseP]
  | cons e es ih =>
    intro b a k out hb hk ho
    obtain ⟨k, rfl⟩ : ∃ k', k = k' + 1 := ⟨k - 1, by omega⟩
    rw [bodsL_cons, List.append_assoc] at hb
    have he := hr e (by simp)
    rw [places_succ_ent (by rw [hb]; exact step_body he _)]
    simp only [List.length_cons] at hk ho
    simp only [parseP]
    rw [if_neg (by simp; omega)]
    rw [ih (fun x hx => hr x (by simp [hx])) b _ k _ (by rw [← List.drop_drop, hb]; exact List.drop_left' (body_len he)) (by omega) (by simp; omega)]
    simp
theorem parse_cut {es : List EntD} (hr : ∀ e ∈ es, rightL e = 0) : ∀ (b : List UInt8) (a k c : Nat) (out : List EntD), b.drop a = (bodsL es ++ zer 1024).take c → c < (bodsL es ++ zer 1024).length → c < 512 * k → out.length + es.length ≤ 256 → ∃ at_, parseP (placesL b k a) out = ([], 3, at_) ∧ at_ ≤ a + c := by
  induction es with
  | nil =>
    intro b a k c out hb hc hk ho
    obtain ⟨k, rfl⟩ : ∃ k', k = k' + 1 := ⟨k - 1, by omega⟩
    rw [places_succ_bad (by rw [hb]; exact step_end_cut c (by rw [List.length_append, zer_len] at hc; simpa [bodsL] using hc))]
    exact ⟨a, by simp [parseP, badP], by omega⟩
  | cons e es ih =>
    intro b a k c out hb hc hk ho
    obtain ⟨k, rfl⟩ : ∃ k', k = k' + 1 := ⟨k - 1, by omega⟩
    have he := hr e (by simp)
    have hbl := body_len he
    have hs := step_cut he (bodsL es ++ zer 1024) c
    rw [bodsL_cons, List.append_assoc] at hb hc
    rw [← hb] at hs
    simp only [List.length_cons] at hk ho
    by_cases h1 : c < 512 + filledL e.data.length
    · rw [if_pos h1] at hs
      rw [places_succ_bad hs]
      exact ⟨a, by simp [parseP, badP], by omega⟩
    · rw [if_neg h1] at hs
      rw [places_succ_ent hs]
      simp only [parseP]
      rw [if_neg (by simp; omega)]
      have hd : b.drop (a + (512 + filledL e.data.length)) = (bodsL es ++ zer 1024).take (c - (512 + filledL e.data.length)) := by
        rw [← List.drop_drop, hb, List.drop_take, List.drop_left' hbl]
      obtain ⟨t, h2, h3⟩ := ih (fun x hx => hr x (by simp [hx])) b _ k _ (out ++ [e]) hd (by rw [List.length_append, hbl] at hc; omega) (by omega) (by simp; omega)
      exact ⟨t, h2, by omega⟩
theorem room_len {es : List EntD} (hr : ∀ e ∈ es, rightL e = 0) : ∀ A, A ≤ 60000 → roomL es A = true → A + (bodsL es).length ≤ 60000 := by
  induction es with
  | nil => intro A hA _; simpa [bodsL] using hA
  | cons e es ih =>
    intro A hA h
    simp only [roomL] at h
    split at h
    · cases h
    · rename_i h2
      have := ih (fun x hx => hr x (by simp [hx])) _ (by omega) h
      rw [bodsL_cons, List.length_append, body_len (hr e (by simp))]
      omega
/-- Printed without an error: what that means. -/
theorem print_ok {es : List EntD} (h : (printL es).2 = 0) : (∀ e ∈ es, rightL e = 0) ∧ es.length ≤ 256 ∧ (printL es).1 = bodsL es ++ zer 1024 ∧ (printL es).1.length ≤ 60000 := by
  unfold printL at h ⊢
  cases hf : firstBad es with
  | some f =>
    rw [hf] at h
    simp only at h
    have : ∀ (l : List EntD) (f : Int), firstBad l = some f → f ≠ 0 := by
      intro l
      induction l with
      | nil => intro f h; cases h
      | cons x l ih =>
        intro f h
        simp only [firstBad] at h
        split at h
        · exact ih f h
        · rename_i hx; cases h; exact hx
    exact absurd h (this es f hf)
  | none =>
    have hr := firstBad_all hf
    rw [hf] at h
    simp only at h ⊢
    split at h
    · cases h
    · rename_i h2
      rw [if_neg h2]
      split at h
      · rename_i h3
        rw [if_pos h3]
        have := room_len hr 1024 (by omega) h3
        exact ⟨hr, by omega, rfl, by simp only [List.length_append]; rw [zer_len]; show (bodsL es).length + 1024 ≤ 60000; omega⟩
      · cases h
theorem bods_ge {es : List EntD} (hr : ∀ e ∈ es, rightL e = 0) : 512 * es.length ≤ (bodsL es).length := by
  induction es with
  | nil => simp [bodsL]
  | cons e es ih =>
    have := ih (fun x hx => hr x (by simp [hx]))
    rw [bodsL_cons, List.length_append, body_len (hr e (by simp)), List.length_cons]
    omega
/-- What is printed is parsed as it was. -/
theorem parse_print {es : List EntD} (h : (printL es).2 = 0) : parseL (printL es).1 = (es, 0, 0) := by
  obtain ⟨hr, hn, hp, hl⟩ := print_ok h
  unfold parseL
  rw [if_neg (by omega)]
  have hg := bods_ge hr
  have := parse_all hr (printL es).1 0 ((printL es).1.length + 1) [] (by rw [List.drop_zero]; exact hp) (by rw [hp, List.length_append]; omega) (by simpa using hn)
  simpa using this
/-- A tar that is cut short is none. -/
theorem parse_short {es : List EntD} (h : (printL es).2 = 0) (c : Nat) (hc : c < (printL es).1.length) : ∃ t, parseL ((printL es).1.take c) = ([], 3, t) ∧ t ≤ c := by
  obtain ⟨hr, hn, hp, hl⟩ := print_ok h
  unfold parseL
  have hlen : ((printL es).1.take c).length = c := by rw [List.length_take]; omega
  rw [if_neg (by rw [hlen]; omega), hlen]
  obtain ⟨t, h1, h2⟩ := parse_cut hr ((printL es).1.take c) 0 (c + 1) c [] (by rw [List.drop_zero, hp]) (by rw [← hp]; exact hc) (by omega) (by simpa using hn)
  exact ⟨t, h1, by omega⟩
end Go.Proofs.YtikhdbdbdldbaaaDoor
