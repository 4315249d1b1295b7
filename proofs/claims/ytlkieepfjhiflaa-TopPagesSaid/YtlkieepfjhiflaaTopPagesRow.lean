/- The row of TopPages, proved: whatever pages, byte and choice. -/
import Derived.Test.YtlkieepfjhiflaaTopPages
import Derived.Test.YtlkieepfjhiflaaOpen
import Derived.Deep.Slices
namespace Go.Proofs.Ytlkieepfjhiflaa
open Go.ChangeShapes Go.WideShapes Go.ChangeAt Go.RowKit

theorem bytes_of_any {H : Type} {enc : TypeId × Value → H} {w : World} {base : Nat} {held : Bool} {fuel : Nat} {v : Value} {x : DataW H × List MemPlace}
    (h : DataW.trod enc Try.prog w base (fun _ => true) held fuel 22 [v] = some x) : ∃ l : List UInt8, RdB w v l := by
  rcases open_ints Try.underlying22 Try.underlying5 bytes_cells h with ⟨hcs, _⟩ | ⟨a, len, cap, zs, hcs, _, hl, hm, hz, hx, hcell, hwz⟩
  · have : v = .slice none 0 0 := by simpa using hcs
    subst this
    exact ⟨[], .inl ⟨rfl, rfl⟩⟩
  · obtain ⟨l, h1, _⟩ := bytes_of h
    exact ⟨l, h1⟩
set_option maxRecDepth 100000 in
theorem slices_open {H : Type} {enc : TypeId × Value → H} {w : World} {base : Nat} {v : Value} {d : DataW H} {p : List MemPlace} (hval : Value.okWide Try.prog w .any base 58 v)
    (h : DataW.Trod enc Try.prog w 0 (fun _ => true) true 58 v d p) : ∃ (vs : List Value) (ls : List (List UInt8)), RdPs w v vs ls := by
  obtain ⟨a0, len0, cap0, rfl⟩ := okWide_slice Try.underlying58 hval
  obtain ⟨fuel, hf⟩ := h
  rcases Go.Deep.open_slice1 Try.underlying58 (show Try.prog.cellsOf 22 = 1 by kernel_rfl) hf with ⟨hcs, hx⟩ | ⟨a, len, cap, m, n, V, D, Pl, hcs, _, hl, hm, hmm, hx, hi⟩
  · have : (Value.slice a0 len0 cap0) = .slice none 0 0 := by simpa [Value.cells] using hcs
    rw [this]
    exact ⟨[], [], .inl ⟨rfl, rfl⟩, rfl, fun i u l h => by simp at h⟩
  · have hv : (Value.slice a0 len0 cap0) = .slice (some a) len cap := by simpa [Value.cells] using hcs
    rw [hv]
    have hmm : m = cap := by simpa using hmm
    obtain ⟨f, hf⟩ := Go.Deep.choose_lt (α := List UInt8) (n := len) (p := fun i l => RdB w (V i) l) (fun i hil => bytes_of_any (hi i (by omega)).2)
    refine ⟨(List.range len).map V, (List.range len).map f, .inr ⟨a, cap, by simp, by simpa using hl, fun j u hj => ?_⟩, by simp, fun i u l h1 h2 => ?_⟩
    · have hjl : j < len := by
        have := (List.getElem?_eq_some_iff.1 hj).1
        simpa using this
      have hc := (hi j (by omega)).1
      have hu : V j = u := by simpa [hjl] using hj
      rw [hu] at hc
      obtain ⟨b, off, pr⟩ := a
      cases pr with
      | none =>
        refine ⟨b, off, rfl, ?_⟩
        have hadd : (⟨b, off, none⟩ : Addr).add j = ⟨b, off + j, none⟩ := by unfold Addr.add; split <;> simp_all
        rw [hadd] at hc
        exact hc
      | some q =>
        have h0 := (hi 0 (by omega)).1
        simp [Addr.add, World.cell?] at h0
        split at h0 <;> simp at h0
    · have hil : i < len := by
        have := (List.getElem?_eq_some_iff.1 h1).1
        simpa using this
      have e1 : V i = u := by simpa [hil] using h1
      have e2 : f i = l := by simpa [hil] using h2
      rw [← e1, ← e2]
      exact hf i hil
set_option maxRecDepth 100000 in
theorem topPages_lifted (os : Os) (started : os.Started) (H : Type) (enc : TypeId × Value → H) :
    ReturnsInHanded {} Try.checked os 6 .any (Rows.topPagesSpec.pre6 enc Try.prog Try.f6 Rows.topPagesRow.domain false) (Rows.topPagesSpec.post enc Try.prog Try.f6 false true false false) := by
  refine returnsInHanded_of_change_sized (C := Try.checked) Try.own started (by kernel_rfl) Try.func6
    (ChangeSpec.witness6 (enc := enc) (C := Try.checked) false ⟨#[], #[.slice none 0 0, .int .u8 0, .slice none 0 0], []⟩ 8 (by kernel_rfl) (by kernel_rfl) (by kernel_rfl) (by kernel_rfl)) ?_
  intro W base args ds gs before hval0 hW hcnd hsz0 _
  have hval : ∀ (j : Nat) t v, Try.f6.params[j]? = some t → args[j]? = some v → Value.okWide Try.prog W .any base t v := hval0
  have hW' := hW
  obtain ⟨p, q, hA0, hV, rfl, hfz, hnd⟩ := hW
  have hA : DataW.TrodAll enc Try.prog W 0 (fun _ => true) true Try.f6.params.toList args.toList ds p := hA0
  rw [Try.params6] at hA hval
  obtain ⟨v0, v1, v2, d0, d1, d2, p0, p1, p2, rfl, rfl, rfl, h0, h1, h2⟩ := trodAll_three hA
  obtain ⟨rfl, rfl⟩ := trodVars_none hV
  obtain ⟨vs, ls, hra⟩ := slices_open (hval 0 58 v0 rfl rfl) h0
  obtain ⟨z, rfl, rfl, rfl, wz⟩ := open_int Try.underlying5 (hval 1 5 v1 rfl rfl) h1
  obtain ⟨lb, hrb, _⟩ := bytes_open (hval 2 22 v2 rfl rfl) h2
  obtain ⟨x, rfl⟩ : ∃ x : UInt8, z = n8 x := by
    have hx : 0 ≤ z ∧ z ≤ 255 := by simpa [Lit.wf, IntKind.min, IntKind.max, IntKind.signed, IntKind.bits] using wz
    refine ⟨UInt8.ofNat z.toNat, ?_⟩
    unfold n8
    rw [UInt8.toNat_ofNat']
    omega
  clear hA0 hval0
  have hlt0 : ∀ x ∈ p0, x.block < W.heap.size := fun x hx => hW'.lt x (by simp [hx])
  have hlt2 : ∀ x ∈ p2, x.block < W.heap.size := fun x hx => hW'.lt x (by simp [hx])
  refine (tpages_any W v0 v2 x vs ls lb hra hrb).mono fun e W' ⟨he, hb⟩ => ?_
  subst he
  refine ⟨_, rfl, _, _, _, [], p0 ++ ([] ++ p2), [], hW', ?_, ?_, ?_, hb.frame _, fun h => by cases h⟩
  · exact trodAll_mk1 (shut_bool Try.underlying4 true)
  · exact trodAll_mk3 (Below.trod Try.laidOut (by kernel_rfl) (of_decide_eq_true (by kernel_rfl)) h0 hb hlt0) (shut_int Try.underlying5 wz) (Below.trod Try.laidOut (by kernel_rfl) (of_decide_eq_true (by kernel_rfl)) h2 hb hlt2)
  · rfl

theorem topPages_proved : Rows.TopPagesSaid :=
  OpenClaim.holds_of_wide 6 Try.f6 rfl rfl rfl rfl rfl rfl rfl ⟨rfl, rfl, rfl, rfl, rfl⟩ rfl rfl rfl rfl rfl (by kernel_rfl) Try.func6 (by kernel_rfl)
    (of_decide_eq_true (by kernel_rfl)) (by unfold Func.isWrapper; first | (rw [if_pos (by decide +kernel)]; kernel_rfl) | (rw [if_neg (by decide +kernel)]; exact ⟨rfl, rfl⟩))
    (fun os started H enc _ => topPages_lifted os started H enc)
#print axioms topPages_proved
end Go.Proofs.Ytlkieepfjhiflaa
