/- The row of ShaDigits, proved. -/
import Derived.Test.YtkhgfaccmhknjaaDigits
import Derived.Test.YtkhgfaccmhknjaaOpen
namespace Go.Proofs.Ytkhgfaccmhknjaa
open Go.ChangeShapes Go.WideShapes Go.ChangeAt Go.RowKit
open Go.ChangeMaps (open_string shut_string)

theorem hash_size : Try.prog.cellsOf 26 = 32 := by kernel_rfl
theorem hash_open {H : Type} {enc : TypeId × Value → H} {w : World} {base : Nat} {v : Value} {d : DataW H} {p : List MemPlace} (hval : Value.okWide Try.prog w .any base 26 v)
    (h : DataW.Trod enc Try.prog w 0 (fun _ => true) true 26 v d p) : ∃ l : List UInt8, l.length = 32 ∧ v = .agg (aB l) := by
  obtain ⟨cs, rfl, hsz⟩ : ∃ cs, v = .agg cs ∧ cs.size = 32 := by
    simp only [Value.okWide, Try.underlying26] at hval
    obtain ⟨cs, h1, h2, _⟩ := hval
    exact ⟨cs, h1, h2.trans hash_size⟩
  obtain ⟨fuel, hf⟩ := h
  obtain ⟨xs, m, rfl, hx, _, hl, hi⟩ := DataW.trod_array Try.underlying26 hf
  have each : ∀ i (hi : i < cs.size), ∃ z, cs[i] = .int .u8 z ∧ (Lit.int .u8 z).wf = true := by
    intro i hic
    have h1 := hi i (by omega)
    rw [bytes_cells] at h1
    have h2 : i < xs.length := by omega
    rw [List.getElem?_eq_getElem h2] at h1
    obtain ⟨z, e0, _, wz⟩ := DataW.trod_int Try.underlying5 h1
    refine ⟨z, ?_, wz⟩
    have h3 : (List.take 1 (List.drop i cs.toList)) = [cs[i]] := by
      rw [List.drop_eq_getElem_cons (by simpa using hic)]
      simp
    simp only [Value.cells, Nat.mul_one] at e0
    rw [h3] at e0
    simpa using e0
  refine ⟨cs.toList.map fun v => UInt8.ofNat (intOf v).toNat, by simp [hsz], ?_⟩
  congr 1
  refine Array.ext (by simp [aB]) fun i h1 h2 => ?_
  obtain ⟨z, hz, wz⟩ := each i h1
  simp only [aB, List.map_map, List.getElem_toArray, List.getElem_map, Function.comp, Array.getElem_toList]
  rw [hz]
  show _ = Value.int .u8 (n8 (UInt8.ofNat z.toNat))
  rw [wf_u8 wz]

set_option maxRecDepth 100000 in
theorem digits_lifted (os : Os) (started : os.Started) (H : Type) (enc : TypeId × Value → H) :
    ReturnsInHanded {} Try.checked os 8 .any (Rows.shaDigitsSpec.pre6 enc Try.prog Try.f8 Rows.shaDigitsRow.domain false) (Rows.shaDigitsSpec.post enc Try.prog Try.f8 false true false false) := by
  refine returnsInHanded_of_change (C := Try.checked) Try.own started (by kernel_rfl) Try.func8
    (ChangeSpec.witness6 (enc := enc) (C := Try.checked) false ⟨#[], #[.agg #[.int .u8 0, .int .u8 0, .int .u8 0, .int .u8 0, .int .u8 0, .int .u8 0, .int .u8 0, .int .u8 0, .int .u8 0, .int .u8 0, .int .u8 0, .int .u8 0, .int .u8 0, .int .u8 0, .int .u8 0, .int .u8 0, .int .u8 0, .int .u8 0, .int .u8 0, .int .u8 0, .int .u8 0, .int .u8 0, .int .u8 0, .int .u8 0, .int .u8 0, .int .u8 0, .int .u8 0, .int .u8 0, .int .u8 0, .int .u8 0, .int .u8 0, .int .u8 0], .string .empty], []⟩ 8 (by kernel_rfl) (by kernel_rfl) (by kernel_rfl) (by kernel_rfl)) ?_
  intro W base args ds gs before hval0 hW hcnd _
  have hval : ∀ (j : Nat) t v, Try.f8.params[j]? = some t → args[j]? = some v → Value.okWide Try.prog W .any base t v := hval0
  have hW' := hW
  obtain ⟨p, q, hA0, hV, rfl, hfz, hnd⟩ := hW
  have hA : DataW.TrodAll enc Try.prog W 0 (fun _ => true) true Try.f8.params.toList args.toList ds p := hA0
  rw [Try.params8] at hA hval
  obtain ⟨v0, v1, d0, d1, p0, p1, rfl, rfl, rfl, h0, h1⟩ := trodAll_two hA
  obtain ⟨rfl, rfl⟩ := trodVars_none hV
  obtain ⟨l, hl, hv0⟩ := hash_open (hval 0 26 v0 rfl rfl) h0
  obtain ⟨s, rfl, rfl, rfl, hs⟩ := open_string Try.underlying9 (hval 1 9 v1 rfl rfl) h1
  clear hA0 hval0
  have hlt : ∀ x ∈ p0, x.block < W.heap.size := fun x hx => hW'.lt x (by simp [hx])
  subst hv0
  refine (digits_any W l hl s).mono fun e W' ⟨he, hb⟩ => ?_
  subst he
  refine ⟨_, rfl, _, _, _, [], p0 ++ [], [], hW', ?_, ?_, ?_, hb.frame _, fun h => by cases h⟩
  · exact trodAll_mk1 (shut_bool Try.underlying4 true)
  · exact trodAll_mk2 (Below.trod Try.laidOut (by kernel_rfl) (of_decide_eq_true (by kernel_rfl)) h0 hb hlt) (shut_string Try.underlying9 hs)
  · rfl

theorem digits_proved : Rows.ShaDigitsSaid :=
  OpenClaim.holds_of_wide 8 Try.f8 rfl rfl rfl rfl rfl rfl rfl ⟨rfl, rfl, rfl, rfl, rfl⟩ rfl rfl rfl rfl rfl (by kernel_rfl) Try.func8 (by kernel_rfl)
    (of_decide_eq_true (by kernel_rfl)) (by unfold Func.isWrapper; first | (rw [if_pos (by decide +kernel)]; kernel_rfl) | (rw [if_neg (by decide +kernel)]; exact ⟨rfl, rfl⟩))
    (fun os started H enc _ => digits_lifted os started H enc)
end Go.Proofs.Ytkhgfaccmhknjaa
