/- Opening a pair of numbers that comes in as an argument. -/
import Derived.Test.YtikhdbdbdldbaaaDoorOpenE
namespace Go.Proofs.YtikhdbdbdldbaaaDoor
open Go.ChangeShapes Go.WideShapes Go.ChangeAt Go.RowKit Go.Joins

set_option maxRecDepth 100000 in
theorem pair_open {H : Type} {enc : TypeId × Value → H} {w : World} {base : Nat} {v : Value} {d : DataW H} {p : List MemPlace} (hval : Value.okWide Tryd.prog w .any base 42 v)
    (h : DataW.Trod enc Tryd.prog w 0 (fun _ => true) true 42 v d p) : ∃ na nb : Nat, v = .agg #[.int .u16 (na : Int), .int .u16 (nb : Int)] ∧ na ≤ 65535 ∧ nb ≤ 65535 := by
  have k1 : Tryd.prog.cellsOf 41 = 1 := by kernel_rfl
  have k2 : Tryd.prog.cellsOf 42 = 2 := by kernel_rfl
  obtain ⟨cs, rfl, hsz⟩ : ∃ cs, v = .agg cs ∧ cs.size = 2 := by
    simp only [Value.okWide, Tryd.underlying42] at hval
    obtain ⟨cs, h1, h2, _⟩ := hval
    exact ⟨cs, h1, h2.trans k2⟩
  obtain ⟨fuel, hf⟩ := h
  rw [show Value.cells (.agg cs) = cs from by simp [Value.cells]] at hf
  obtain ⟨l, rfl⟩ : ∃ l : List Value, cs = l.toArray := ⟨cs.toList, by simp⟩
  match l, hsz with
  | [v0, v1], _ =>
  have hf : DataW.trod enc Tryd.prog w 0 (fun _ => true) true fuel 42 [v0, v1] = some (d, p) := hf
  obtain ⟨xs, m, _, _, _, hl, hi⟩ := DataW.trod_array Tryd.underlying42 hf
  match xs, hl with
  | [y0, y1], _ =>
  have g0 := hi 0 (by decide)
  have g1 := hi 1 (by decide)
  obtain ⟨z0, e0, _, w0⟩ := DataW.trod_int Tryd.underlying41 g0
  obtain ⟨z1, e1, _, w1⟩ := DataW.trod_int Tryd.underlying41 g1
  have b0 : 0 ≤ z0 ∧ z0 ≤ 65535 := by simpa [Lit.wf, IntKind.min, IntKind.max, IntKind.signed, IntKind.bits] using w0
  have b1 : 0 ≤ z1 ∧ z1 ≤ 65535 := by simpa [Lit.wf, IntKind.min, IntKind.max, IntKind.signed, IntKind.bits] using w1
  cases e0
  cases e1
  refine ⟨z0.toNat, z1.toNat, ?_, by omega, by omega⟩
  rw [Int.toNat_of_nonneg b0.1, Int.toNat_of_nonneg b1.1]
end Go.Proofs.YtikhdbdbdldbaaaDoor
