/- The row of TopAgain, proved: whatever pages, places and choice. -/
import Derived.Test.YtlkieepfjhiflaaTopAgain
import Derived.Test.YtlkieepfjhiflaaOpen
namespace Go.Proofs.Ytlkieepfjhiflaa
open Go.ChangeShapes Go.WideShapes Go.ChangeAt Go.RowKit

theorem u16_cells : Try.prog.cellsOf 56 = 1 := by kernel_rfl
set_option maxRecDepth 100000 in
theorem u16s_open {H : Type} {enc : TypeId × Value → H} {w : World} {base : Nat} {v : Value} {d : DataW H} {p : List MemPlace} (hval : Value.okWide Try.prog w .any base 46 v)
    (h : DataW.Trod enc Try.prog w 0 (fun _ => true) true 46 v d p) :
    ∃ pl : List Nat, RdV w v (pl.map fun (n : Nat) => Value.int .u16 (n : Int)) ∧ pl.length ≤ 9223372036854775807 ∧ ∀ n ∈ pl, n ≤ 65535 := by
  obtain ⟨a0, len0, cap0, rfl⟩ := okWide_slice Try.underlying46 hval
  obtain ⟨fuel, hf⟩ := h
  rcases open_ints Try.underlying46 Try.underlying56 u16_cells hf with ⟨hcs, _⟩ | ⟨a, len, cap, zs, hcs, _, hl, hm, hz, _, hcell, hwz⟩
  · have : (Value.slice a0 len0 cap0) = .slice none 0 0 := by simpa [Value.cells] using hcs
    cases this
    exact ⟨[], .inl ⟨rfl, rfl⟩, by simp, by simp⟩
  · have : (Value.slice a0 len0 cap0) = .slice (some a) len cap := by simpa [Value.cells] using hcs
    cases this
    have hz : zs.length = cap0 := by simpa using hz
    have hwf : ∀ z ∈ zs, 0 ≤ z ∧ z ≤ 65535 := fun z h => by
      have := hwz z h
      simpa [Lit.wf, IntKind.min, IntKind.max, IntKind.signed, IntKind.bits] using this
    simp only [maxLen] at hm
    refine ⟨(zs.take len0).map Int.toNat, .inr ⟨a, cap0, ?_, ?_, fun j u hj => ?_⟩, by simp; omega, fun n hn => ?_⟩
    · simp [hz, Nat.min_eq_left hl]
    · simp; omega
    · have hjl : j < len0 ∧ j < zs.length := by
        have := (List.getElem?_eq_some_iff.1 hj).1
        simp at this
        omega
      obtain ⟨b, off, rfl, hc⟩ := ints_at hcell (by omega)
      refine ⟨b, off, rfl, ?_⟩
      have hwj := hwf zs[j] (List.getElem_mem hjl.2)
      have hu : u = .int .u16 zs[j] := by
        simp only [List.map_map, List.getElem?_map, List.getElem?_take, hjl.1, if_true, List.getElem?_eq_getElem hjl.2, Option.map_some, Option.some.injEq] at hj
        rw [← hj]
        show Value.int .u16 ((zs[j].toNat : Nat) : Int) = _
        rw [Int.toNat_of_nonneg hwj.1]
      rw [hu]
      have h := hc j hjl.2
      rw [List.getD_eq_getElem?_getD, List.getElem?_eq_getElem hjl.2] at h
      exact h
    · obtain ⟨z, h1, h2⟩ := List.mem_map.1 hn
      have := hwf z (List.mem_of_mem_take h1)
      omega
set_option maxRecDepth 100000 in
theorem bytes_open3 {H : Type} {enc : TypeId × Value → H} {w : World} {base : Nat} {v : Value} {d : DataW H} {p : List MemPlace} (hval : Value.okWide Try.prog w .any base 22 v)
    (h : DataW.Trod enc Try.prog w 0 (fun _ => true) true 22 v d p) : ∃ l : List UInt8, RdB w v l ∧ l.length ≤ 9223372036854775807 := by
  obtain ⟨l, h1, _⟩ := bytes_open hval h
  obtain ⟨a0, len0, cap0, rfl⟩ := okWide_slice Try.underlying22 hval
  obtain ⟨fuel, hf⟩ := h
  refine ⟨l, h1, ?_⟩
  rcases open_ints Try.underlying22 Try.underlying5 bytes_cells hf with ⟨hcs, _⟩ | ⟨a, len, cap, zs, hcs, _, hl, hm, _⟩
  · have : (Value.slice a0 len0 cap0) = .slice none 0 0 := by simpa [Value.cells] using hcs
    cases this
    obtain ⟨a', c', e, _⟩ := RdB.open h1
    simp only [Value.slice.injEq] at e
    omega
  · have : (Value.slice a0 len0 cap0) = .slice (some a) len cap := by simpa [Value.cells] using hcs
    cases this
    simp only [maxLen] at hm
    obtain ⟨a', c', e, _⟩ := RdB.open h1
    simp only [Value.slice.injEq] at e
    omega
set_option maxRecDepth 100000 in
theorem topAgain_lifted (os : Os) (started : os.Started) (H : Type) (enc : TypeId × Value → H) :
    ReturnsInHanded {} Try.checked os 5 .any (Rows.topAgainSpec.pre6 enc Try.prog Try.f5 Rows.topAgainRow.domain false) (Rows.topAgainSpec.post enc Try.prog Try.f5 false true false false) := by
  refine returnsInHanded_of_change_sized (C := Try.checked) Try.own started (by kernel_rfl) Try.func5
    (ChangeSpec.witness6 (enc := enc) (C := Try.checked) false ⟨#[], #[.slice none 0 0, .slice none 0 0, .slice none 0 0], []⟩ 8 (by kernel_rfl) (by kernel_rfl) (by kernel_rfl) (by kernel_rfl)) ?_
  intro W base args ds gs before hval0 hW hcnd hsz0 _
  have hval : ∀ (j : Nat) t v, Try.f5.params[j]? = some t → args[j]? = some v → Value.okWide Try.prog W .any base t v := hval0
  have hW' := hW
  obtain ⟨p, q, hA0, hV, rfl, hfz, hnd⟩ := hW
  have hA : DataW.TrodAll enc Try.prog W 0 (fun _ => true) true Try.f5.params.toList args.toList ds p := hA0
  rw [Try.params5] at hA hval
  obtain ⟨v0, v1, v2, d0, d1, d2, p0, p1, p2, rfl, rfl, rfl, h0, h1, h2⟩ := trodAll_three hA
  obtain ⟨rfl, rfl⟩ := trodVars_none hV
  obtain ⟨la, hra, hla⟩ := bytes_open3 (hval 0 22 v0 rfl rfl) h0
  obtain ⟨pl, hrp, hpl, hp16⟩ := u16s_open (hval 1 46 v1 rfl rfl) h1
  obtain ⟨lb, hrb, _⟩ := bytes_open (hval 2 22 v2 rfl rfl) h2
  clear hA0 hval0
  have hlt0 : ∀ x ∈ p0, x.block < W.heap.size := fun x hx => hW'.lt x (by simp [hx])
  have hlt1 : ∀ x ∈ p1, x.block < W.heap.size := fun x hx => hW'.lt x (by simp [hx])
  have hlt2 : ∀ x ∈ p2, x.block < W.heap.size := fun x hx => hW'.lt x (by simp [hx])
  refine (tagain_any W v0 v1 v2 la pl lb hra hla hrp hpl hp16 hrb).mono fun e W' ⟨he, hb⟩ => ?_
  subst he
  refine ⟨_, rfl, _, _, _, [], p0 ++ (p1 ++ p2), [], hW', ?_, ?_, ?_, hb.frame _, fun h => by cases h⟩
  · exact trodAll_mk1 (shut_bool Try.underlying4 true)
  · exact trodAll_mk3 (Below.trod Try.laidOut (by kernel_rfl) (of_decide_eq_true (by kernel_rfl)) h0 hb hlt0) (Below.trod Try.laidOut (by kernel_rfl) (of_decide_eq_true (by kernel_rfl)) h1 hb hlt1) (Below.trod Try.laidOut (by kernel_rfl) (of_decide_eq_true (by kernel_rfl)) h2 hb hlt2)
  · rfl

theorem topAgain_proved : Rows.TopAgainSaid :=
  OpenClaim.holds_of_wide 5 Try.f5 rfl rfl rfl rfl rfl rfl rfl ⟨rfl, rfl, rfl, rfl, rfl⟩ rfl rfl rfl rfl rfl (by kernel_rfl) Try.func5 (by kernel_rfl)
    (of_decide_eq_true (by kernel_rfl)) (by unfold Func.isWrapper; first | (rw [if_pos (by decide +kernel)]; kernel_rfl) | (rw [if_neg (by decide +kernel)]; exact ⟨rfl, rfl⟩))
    (fun os started H enc _ => topAgain_lifted os started H enc)
#print axioms topAgain_proved
end Go.Proofs.Ytlkieepfjhiflaa
