/- The row of ShaMixes, proved. -/
import Derived.Test.YtkhgfaccmhknjaaMixes
import Derived.Test.YtkhgfaccmhknjaaOpen
import Derived.Lib.SmallJoins
namespace Go.Proofs.Ytkhgfaccmhknjaa
open Go.ChangeShapes Go.WideShapes Go.ChangeAt Go.RowKit

theorem three_cells : Try.prog.cellsOf 32 = 3 := by kernel_rfl
theorem slice_cells : Try.prog.cellsOf 22 = 1 := by kernel_rfl

/-- Three slices of bytes by value, opened. -/
theorem three_open {H : Type} {enc : TypeId × Value → H} {w : World} {base : Nat} {v : Value} {d : DataW H} {p : List MemPlace} (hval : Value.okWide Try.prog w .any base 32 v)
    (h : DataW.Trod enc Try.prog w 0 (fun _ => true) true 32 v d p) (hw : (d.weights Try.prog 32).all (· ≤ reachBytes) = true) :
    ∃ (va vb vc : Value) (la lb lc : List UInt8), v = .agg #[va, vb, vc] ∧ RdB w va la ∧ RdB w vb lb ∧ RdB w vc lc ∧ la.length ≤ 140737488351232 := by
  obtain ⟨cs, rfl, hsz⟩ : ∃ cs, v = .agg cs ∧ cs.size = 3 := by
    simp only [Value.okWide, Try.underlying32] at hval
    obtain ⟨cs, h1, h2, _⟩ := hval
    exact ⟨cs, h1, h2.trans three_cells⟩
  obtain ⟨fuel, hf⟩ := h
  obtain ⟨xs, m, rfl, hx, _, hl, hi⟩ := DataW.trod_array Try.underlying32 hf
  obtain ⟨c0, c1, c2, rfl⟩ := Go.Joins.array3 hsz
  match xs, hl with
  | [x0, x1, x2], _ =>
    have e0 : DataW.trod enc Try.prog w 0 (fun _ => true) true m 22 [c0] = some x0 := by
      have := hi 0 (by decide); rw [slice_cells] at this; simpa [Value.cells] using this
    have e1 : DataW.trod enc Try.prog w 0 (fun _ => true) true m 22 [c1] = some x1 := by
      have := hi 1 (by decide); rw [slice_cells] at this; simpa [Value.cells] using this
    have e2 : DataW.trod enc Try.prog w 0 (fun _ => true) true m 22 [c2] = some x2 := by
      have := hi 2 (by decide); rw [slice_cells] at this; simpa [Value.cells] using this
    obtain ⟨la, ha, hla⟩ := bytes_of e0
    obtain ⟨lb, hb, _⟩ := bytes_of e1
    obtain ⟨lc, hc, _⟩ := bytes_of e2
    refine ⟨c0, c1, c2, la, lb, lc, rfl, ha, hb, hc, hla ?_⟩
    have hd : d = .agg [x0.1, x1.1, x2.1] := (Prod.mk.inj hx).1
    rw [hd] at hw
    simp only [DataW.weights, Try.underlying32, DataW.weightsAll, List.all_append, Bool.and_eq_true] at hw
    exact hw.1

set_option maxRecDepth 100000 in
theorem mixes_lifted (os : Os) (started : os.Started) (H : Type) (enc : TypeId × Value → H) :
    ReturnsInHanded {} Try.checked os 4 .any (Rows.shaMixesSpec.pre6 enc Try.prog Try.f4 Rows.shaMixesRow.domain false) (Rows.shaMixesSpec.post enc Try.prog Try.f4 false true false false) := by
  refine returnsInHanded_of_change_sized (C := Try.checked) Try.own started (by kernel_rfl) Try.func4
    (ChangeSpec.witness6 (enc := enc) (C := Try.checked) false ⟨#[], #[.agg #[.slice none 0 0, .slice none 0 0, .slice none 0 0]], []⟩ 8 (by kernel_rfl) (by kernel_rfl) (by kernel_rfl) (by kernel_rfl)) ?_
  intro W base args ds gs before hval0 hW hcnd hsz0 _
  have hval : ∀ (j : Nat) t v, Try.f4.params[j]? = some t → args[j]? = some v → Value.okWide Try.prog W .any base t v := hval0
  have hsz : (DataW.weightsEach Try.prog (Try.f4.params.toList ++ Rows.shaMixesSpec.plain.varTypes Try.prog) (ds ++ gs)).all (· ≤ reachBytes) = true := hsz0
  have hW' := hW
  obtain ⟨p, q, hA0, hV, rfl, hfz, hnd⟩ := hW
  have hA : DataW.TrodAll enc Try.prog W 0 (fun _ => true) true Try.f4.params.toList args.toList ds p := hA0
  rw [Try.params4] at hA hval hsz
  obtain ⟨v0, d0, rfl, rfl, h0⟩ := trodAll_one hA
  obtain ⟨rfl, rfl⟩ := trodVars_none hV
  obtain ⟨va, vb, vc, la, lb, lc, rfl, ha, hb, hc, hlen⟩ := three_open (hval 0 32 v0 rfl rfl) h0 (weights_at hsz (j := 0) rfl rfl)
  clear hA0 hval0
  have hlt : ∀ x ∈ p, x.block < W.heap.size := fun x hx => hW'.lt x (by simpa using hx)
  refine (mixes_any W va vb vc la lb lc ha hb hc (by omega)).mono fun e W' ⟨he, hb⟩ => ?_
  subst he
  refine ⟨_, rfl, _, _, _, [], p, [], hW', ?_, ?_, ?_, hb.frame _, fun h => by cases h⟩
  · exact trodAll_mk1 (shut_bool Try.underlying4 true)
  · exact trodAll_mk1 (Below.trod Try.laidOut (by kernel_rfl) (of_decide_eq_true (by kernel_rfl)) h0 hb hlt)
  · rfl

theorem mixes_proved : Rows.ShaMixesSaid :=
  OpenClaim.holds_of_wide 4 Try.f4 rfl rfl rfl rfl rfl rfl rfl ⟨rfl, rfl, rfl, rfl, rfl⟩ rfl rfl rfl rfl rfl (by kernel_rfl) Try.func4 (by kernel_rfl)
    (of_decide_eq_true (by kernel_rfl)) (by unfold Func.isWrapper; first | (rw [if_pos (by decide +kernel)]; kernel_rfl) | (rw [if_neg (by decide +kernel)]; exact ⟨rfl, rfl⟩))
    (fun os started H enc _ => mixes_lifted os started H enc)
end Go.Proofs.Ytkhgfaccmhknjaa
