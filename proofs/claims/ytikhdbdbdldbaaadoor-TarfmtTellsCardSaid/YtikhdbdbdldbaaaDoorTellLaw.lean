/- A byte of a header that is changed is told, at that header. Plain lists. -/
import Derived.Test.YtikhdbdbdldbaaaDoorAgainLaw
import Derived.Test.YtikhdbdbdldbaaaDoorTSums
namespace Go.Proofs.YtikhdbdbdldbaaaDoor

theorem fld_set_out (h : List UInt8) (i : Nat) (x : UInt8) (a n : Nat) (hi : i < a ∨ a + n ≤ i) : fld (h.set i x) (a, n) = fld h (a, n) := by
  unfold fld
  apply List.ext_getElem?
  intro j
  simp only [List.getElem?_take, List.getElem?_drop]
  split
  · rw [List.getElem?_set_ne (by omega)]
  · rfl
theorem header_at {e : EntD} (h : rightL e = 0) : (headerL e)[257]? = some 0x75 ∧ (headerL e)[258]? = some 0x73 := by
  have hr := right_ok h
  obtain ⟨p, hp⟩ := Option.isSome_iff_exists.1 hr.2.2.2.1
  obtain ⟨h1, h2⟩ := parted_lens hp
  have hm := f_magic h1 h2 hr.2.2.2.2.2 (sumH (headA p.2 e.mode.toNat e.data.length ++ zer 8 ++ headB e.kind e.link p.1))
  rw [← header_hdF hp] at hm
  have h0 := congrArg (fun l => l[0]?) hm
  have h3 := congrArg (fun l => l[1]?) hm
  simp only [fld, List.getElem?_take, List.getElem?_drop] at h0 h3
  exact ⟨h0, h3⟩
theorem header_sum {e : EntD} (h : rightL e = 0) : sumL (fld (headerL e) (148, 8)) = some (sumH (headerL e)) := by
  have hr := right_ok h
  obtain ⟨p, hp⟩ := Option.isSome_iff_exists.1 hr.2.2.2.1
  obtain ⟨h1, h2⟩ := parted_lens hp
  have hl := hr.2.2.2.2.2
  have hsum : sumH (headerL e) = sumH (headA p.2 e.mode.toNat e.data.length ++ zer 8 ++ headB e.kind e.link p.1) := by
    unfold headerL
    rw [hp]
    simp only [Option.getD_some]
    exact sumH_mid _ _ _ _ (headA_len h2 _ _) (octF_len _ _ (by omega)) (by simp [zer]) (headB_len hl h1)
  have hf := f_sum h1 h2 hl (sumH (headA p.2 e.mode.toNat e.data.length ++ zer 8 ++ headB e.kind e.link p.1))
  rw [← header_hdF hp] at hf
  rw [hf, hsum]
  exact sumL_octF _ (by have := sumH_le (headA p.2 e.mode.toNat e.data.length ++ zer 8 ++ headB e.kind e.link p.1); omega)
theorem read_changed {e : EntD} (h : rightL e = 0) (i : Nat) (x : UInt8) (hi : i < 512) (ho : ¬ (148 ≤ i ∧ i < 156)) (hx : (headerL e)[i]? ≠ some x) : readL ((headerL e).set i x) = none := by
  have hl := header_len h
  have hsum : sumH ((headerL e).set i x) ≠ sumH (headerL e) := by
    intro q
    have hs := sumTo_set (headerL e) x 0 i (by omega)
    rw [sumTo_512 _ hl, sumTo_512 _ (by rw [List.length_set]; exact hl), q] at hs
    unfold sumB at hs
    rw [Nat.zero_add, if_neg ho, if_neg ho] at hs
    apply hx
    rw [List.getElem?_eq_getElem (by omega)]
    congr 1
    exact UInt8.toNat_inj.1 (by omega)
  unfold readL
  split
  · rfl
  · split
    · rfl
    · split
      · rfl
      · unfold read1
        rw [fld_set_out _ _ _ _ _ (by omega), header_sum h]
        simp only
        rw [if_pos (fun q => hsum q.symm)]
theorem allZ_at {l : List UInt8} {i : Nat} {x : UInt8} (h : l[i]? = some x) (hx : x ≠ 0) : allZ l = false := by
  cases hz : allZ l with
  | false => rfl
  | true =>
    have := List.all_eq_true.1 hz x (List.mem_of_getElem? h)
    exact absurd (by simpa using this) hx
theorem step_changed {e : EntD} (h : rightL e = 0) (i : Nat) (x : UInt8) (hi : i < 512) (ho : ¬ (148 ≤ i ∧ i < 156)) (hx : (headerL e)[i]? ≠ some x) (X : List UInt8) : stepL ((bodyL e ++ X).set i x) = .bad := by
  have hl := header_len h
  have ht : ((bodyL e ++ X).set i x).take 512 = (headerL e).set i x := by
    unfold bodyL
    rw [List.append_assoc, List.append_assoc, List.set_append_left _ _ (by omega)]
    exact List.take_left' (by rw [List.length_set]; exact hl)
  have hz : allZ ((headerL e).set i x) = false := by
    obtain ⟨h1, h2⟩ := header_at h
    by_cases hi7 : i = 257
    · exact allZ_at (i := 258) (by rw [List.getElem?_set_ne (by omega)]; exact h2) (by decide)
    · exact allZ_at (i := 257) (by rw [List.getElem?_set_ne (by omega)]; exact h1) (by decide)
  unfold stepL
  rw [if_neg (by rw [List.length_set, List.length_append, body_len h]; omega), ht, hz, if_neg (by decide), read_changed h i x hi ho hx]
  rfl
theorem parse_pre {es : List EntD} (hr : ∀ e ∈ es, rightL e = 0) (R : List UInt8) (hR : stepL R = .bad) : ∀ (b : List UInt8) (a k : Nat) (out : List EntD), b.drop a = bodsL es ++ R → es.length < k → out.length + es.length ≤ 256 → parseP (placesL b k a) out = ([], 3, a + (bodsL es).length) := by
  induction es with
  | nil =>
    intro b a k out hb hk ho
    obtain ⟨k, rfl⟩ : ∃ k', k = k' + 1 := ⟨k - 1, by omega⟩
    rw [places_succ_bad (by rw [hb]; exact hR)]
    simp [parseP, badP, bodsL]
  | cons e es ih =>
    intro b a k out hb hk ho
    obtain ⟨k, rfl⟩ : ∃ k', k = k' + 1 := ⟨k - 1, by omega⟩
    rw [bodsL_cons, List.append_assoc] at hb
    have he := hr e (by simp)
    rw [places_succ_ent (by rw [hb]; exact step_body he _)]
    simp only [List.length_cons] at hk ho
    simp only [parseP]
    rw [if_neg (by simp; omega)]
    rw [ih (fun x hx => hr x (by simp [hx])) b _ k _ (by rw [← List.drop_drop, hb]; exact List.drop_left' (body_len he)) (by omega) (by simp; omega)]
    rw [bodsL_cons, List.length_append, body_len he]
    simp; omega
theorem bodsL_split (es : List EntD) (j : Nat) (e : EntD) (h : es[j]? = some e) : bodsL es = bodsL (es.take j) ++ (bodyL e ++ bodsL (es.drop (j + 1))) := by
  obtain ⟨hj, he⟩ := List.getElem?_eq_some_iff.1 h
  have h1 : es = es.take j ++ (e :: es.drop (j + 1)) := by rw [← he, ← List.drop_eq_getElem_cons hj, List.take_append_drop]
  conv => lhs; rw [h1]
  simp [bodsL]
/-- The law: a changed byte of header number j is told there. -/
theorem parse_tells {es : List EntD} (h : (printL es).2 = 0) (j : Nat) (e : EntD) (hj : es[j]? = some e) (i : Nat) (x : UInt8) (hi : i < 512) (ho : ¬ (148 ≤ i ∧ i < 156)) (hx : (printL es).1[(bodsL (es.take j)).length + i]? ≠ some x) :
    parseL ((printL es).1.set ((bodsL (es.take j)).length + i) x) = ([], 3, (bodsL (es.take j)).length) := by
  obtain ⟨hr, hn, hp, hl⟩ := print_ok h
  have he := hr e (List.mem_of_getElem? hj)
  have hjl := (List.getElem?_eq_some_iff.1 hj).1
  rw [hp] at hx hl ⊢
  have hs : bodsL es ++ zer 1024 = bodsL (es.take j) ++ (bodyL e ++ (bodsL (es.drop (j + 1)) ++ zer 1024)) := by rw [bodsL_split es j e hj]; simp only [List.append_assoc]
  rw [hs] at hx hl ⊢
  have hx2 : (headerL e)[i]? ≠ some x := by
    intro q
    apply hx
    rw [List.getElem?_append_right (by omega), Nat.add_sub_cancel_left]
    unfold bodyL
    rw [List.append_assoc, List.append_assoc, List.getElem?_append_left (by rw [header_len he]; exact hi)]
    exact q
  rw [List.set_append_right _ _ (by omega), Nat.add_sub_cancel_left]
  unfold parseL
  rw [if_neg (by rw [List.length_append, List.length_set, ← List.length_append]; omega)]
  have hg := bods_ge (es := es.take j) (fun y hy => hr y (List.mem_of_mem_take hy))
  have := parse_pre (es := es.take j) (fun y hy => hr y (List.mem_of_mem_take hy)) _ (step_changed he i x hi ho hx2 (bodsL (es.drop (j + 1)) ++ zer 1024)) (bodsL (es.take j) ++ (bodyL e ++ (bodsL (es.drop (j + 1)) ++ zer 1024)).set i x) 0 ((bodsL (es.take j) ++ (bodyL e ++ (bodsL (es.drop (j + 1)) ++ zer 1024)).set i x).length + 1) [] rfl (by rw [List.length_append]; omega) (by simp; omega)
  simpa using this
theorem bodsL_take (es : List EntD) (hr : ∀ e ∈ es, rightL e = 0) (j : Nat) (e : EntD) (hj : es[j]? = some e) : (bodsL (es.take (j + 1))).length = (bodsL (es.take j)).length + (512 + filledL e.data.length) := by
  rw [List.take_add_one, hj]
  simp only [bodsL, Option.toList_some, List.map_append, List.flatten_append, List.length_append, List.map_cons, List.map_nil, List.flatten_cons, List.flatten_nil, List.length_nil]
  rw [body_len (hr e (List.mem_of_getElem? hj))]
  omega
end Go.Proofs.YtikhdbdbdldbaaaDoor
