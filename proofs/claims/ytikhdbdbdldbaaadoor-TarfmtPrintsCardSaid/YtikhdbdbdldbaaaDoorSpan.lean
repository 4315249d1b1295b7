/- Contracts of tarfmt's spans: where a field lies; a field of a row. -/
import Derived.Test.YtikhdbdbdldbaaaDoorFr
namespace Go.Proofs.YtikhdbdbdldbaaaDoor
open Go.RowKit

theorem run_spanAt (a n : Value) (w : World) : (Instr.field 53 (.agg #[a, n]) 0).run Tryd.prog w = .ok a w := by
  simp [Instr.field, run_underlying Tryd.underlying53, go_sem, asAgg]
theorem run_spanN (a n : Value) (w : World) : (Instr.field 53 (.agg #[a, n]) 1).run Tryd.prog w = .ok n w := by
  simp [Instr.field, run_underlying Tryd.underlying53, go_sem, asAgg]
theorem name_any (w : World) : Calls Tryd.prog 34 #[] w fun e w' => e = .returned (.agg #[.int .i64 0, .int .i64 100]) ∧ Below w.heap.size w w' := by
  go_enter Tryd.func34, Tryd.ntmps34
  go_wp2_with fail
  exact bodyPost_ret (v := .agg #[.int .i64 0, .int .i64 100]) (by simp [results, Tryd.results34, go_sem]) rfl ⟨rfl, (Below.refl _ _).alloc (Nat.le_refl _) _⟩
theorem mode_any (w : World) : Calls Tryd.prog 36 #[] w fun e w' => e = .returned (.agg #[.int .i64 100, .int .i64 8]) ∧ Below w.heap.size w w' := by
  go_enter Tryd.func36, Tryd.ntmps36
  go_wp2_with fail
  exact bodyPost_ret (v := .agg #[.int .i64 100, .int .i64 8]) (by simp [results, Tryd.results36, go_sem]) rfl ⟨rfl, (Below.refl _ _).alloc (Nat.le_refl _) _⟩
theorem size_any (w : World) : Calls Tryd.prog 37 #[] w fun e w' => e = .returned (.agg #[.int .i64 124, .int .i64 12]) ∧ Below w.heap.size w w' := by
  go_enter Tryd.func37, Tryd.ntmps37
  go_wp2_with fail
  exact bodyPost_ret (v := .agg #[.int .i64 124, .int .i64 12]) (by simp [results, Tryd.results37, go_sem]) rfl ⟨rfl, (Below.refl _ _).alloc (Nat.le_refl _) _⟩
theorem sum_any (w : World) : Calls Tryd.prog 29 #[] w fun e w' => e = .returned (.agg #[.int .i64 148, .int .i64 8]) ∧ Below w.heap.size w w' := by
  go_enter Tryd.func29, Tryd.ntmps29
  go_wp2_with fail
  exact bodyPost_ret (v := .agg #[.int .i64 148, .int .i64 8]) (by simp [results, Tryd.results29, go_sem]) rfl ⟨rfl, (Below.refl _ _).alloc (Nat.le_refl _) _⟩
theorem link_any (w : World) : Calls Tryd.prog 26 #[] w fun e w' => e = .returned (.agg #[.int .i64 157, .int .i64 100]) ∧ Below w.heap.size w w' := by
  go_enter Tryd.func26, Tryd.ntmps26
  go_wp2_with fail
  exact bodyPost_ret (v := .agg #[.int .i64 157, .int .i64 100]) (by simp [results, Tryd.results26, go_sem]) rfl ⟨rfl, (Below.refl _ _).alloc (Nat.le_refl _) _⟩
theorem prefix_any (w : World) : Calls Tryd.prog 32 #[] w fun e w' => e = .returned (.agg #[.int .i64 345, .int .i64 155]) ∧ Below w.heap.size w w' := by
  go_enter Tryd.func32, Tryd.ntmps32
  go_wp2_with fail
  exact bodyPost_ret (v := .agg #[.int .i64 345, .int .i64 155]) (by simp [results, Tryd.results32, go_sem]) rfl ⟨rfl, (Below.refl _ _).alloc (Nat.le_refl _) _⟩
/-- 'h[at : at+n : at+n]'. -/
theorem in_any (w : World) (at_ n : Nat) (b o c : Nat) (h0 : 0 < n) (hn : at_ + n ≤ 512) (hc : 512 ≤ c) (hc2 : c ≤ 9223372036854775807) :
    Calls Tryd.prog 33 #[.agg #[.int .i64 (at_ : Int), .int .i64 (n : Int)], .slice (some ⟨b, o, none⟩) 512 c] w fun e w' => e = .returned (.slice (some ⟨b, o + at_, none⟩) n n) ∧ Below w.heap.size w w' := by
  have b0 : (0 : Int) ≤ (at_ : Int) := by omega
  have b1 : (0 : Int) < (n : Int) := by omega
  have b2 : (at_ : Int) + (n : Int) ≤ 512 := by omega
  have b3 : (512 : Int) ≤ (c : Int) := by omega
  have b4 : (c : Int) ≤ 9223372036854775807 := by omega
  go_enter Tryd.func33, Tryd.ntmps33
  go_wp2_with fail
  go_ret
  exact ⟨ret_eq (by simp), (Below.refl _ _).alloc (Nat.le_refl _) _⟩
end Go.Proofs.YtikhdbdbdldbaaaDoor
