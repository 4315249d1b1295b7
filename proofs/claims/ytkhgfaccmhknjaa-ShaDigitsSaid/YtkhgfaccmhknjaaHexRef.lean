/- The contract of the reference's Hex. -/
import Derived.Test.YtkhgfaccmhknjaaUnRef
namespace Go.Proofs.Ytkhgfaccmhknjaa
open Go.RowKit

theorem digit_slice (y : UInt8) (hy : y.toNat < 16) (w : World) : (Instr.slice 9 (.string ⟨#[48, 49, 50, 51, 52, 53, 54, 55, 56, 57, 97, 98, 99, 100, 101, 102]⟩) (some (.int .u8 (n8 y))) (some (.int .u8 (n8 y + 1))) none).run Try.prog w = .ok (.string ⟨#[hexDigit y]⟩) w := by
  have h0 := n8_lo y
  have hs : (ByteArray.size ⟨#[48, 49, 50, 51, 52, 53, 54, 55, 56, 57, 97, 98, 99, 100, 101, 102]⟩ : Int) = 16 := rfl
  have h1 : n8 y < 16 := by unfold n8; omega
  rw [run_slice_string (P := Try.prog) w 9 _ .u8 .u8 (n8 y) (n8 y + 1) Try.underlying9 (by omega) (by omega) (by rw [hs]; omega)]
  have : ∀ m : Fin 16, (ByteArray.extract ⟨#[48, 49, 50, 51, 52, 53, 54, 55, 56, 57, 97, 98, 99, 100, 101, 102]⟩ m.val (m.val + 1)).data = #[digits.getD m.val 0] := by decide +kernel
  have h2 := this ⟨y.toNat, hy⟩
  have e1 : (n8 y).toNat = y.toNat := by unfold n8; omega
  have e2 : (n8 y + 1).toNat = y.toNat + 1 := by unfold n8; omega
  rw [e1, e2]
  have h3 : ByteArray.extract ⟨#[48, 49, 50, 51, 52, 53, 54, 55, 56, 57, 97, 98, 99, 100, 101, 102]⟩ y.toNat (y.toNat + 1) = ⟨#[hexDigit y]⟩ := by
    apply ByteArray.ext
    exact h2
  rw [h3]
theorem str_add (pre : List UInt8) (a b : UInt8) : (⟨pre.toArray⟩ ++ (⟨#[a]⟩ ++ ⟨#[b]⟩) : ByteArray) = ⟨(pre ++ [a] ++ [b]).toArray⟩ := by
  apply ByteArray.ext
  simp [ByteArray.data_append]

def HrI (w : World) (l : List UInt8) (i sv : Value) (wr : World) : Prop :=
  ∃ k : Nat, k ≤ 32 ∧ i = .int .i64 k ∧ sv = .string ⟨(hexOf (l.take k)).toArray⟩ ∧ wr.heap[w.heap.size]? = some (.cells (aB l) 26 (0, 0)) ∧ Below w.heap.size w wr

set_option maxRecDepth 100000 in
set_option maxHeartbeats 1000000 in
theorem hexref_any (w : World) (l : List UInt8) (hl : l.length = 32) :
    Calls Try.prog 24 #[.agg (aB l)] w fun e w' => e = .returned (.string ⟨(hexOf l).toArray⟩) ∧ Below w.heap.size w w' := by
  have HL := Lib.hid hl; clear hl
  have hand : ∀ x, bits BinOp.and .u8 (n8 x) 15 = n8 (x &&& 15) := fun x => n8_and x 15
  have hshr := n8_shr4
  go_enter Try.func24, Try.ntmps24
  go_wp2_with fail
  have HBX : Hid ((w.alloc (.cells (aB l) 26)).heap[w.heap.size]? = some (.cells (aB l) 26 (0, 0))) := heap_alloc_new w _
  have HB0 := Lib.hid ((Below.refl w.heap.size w).alloc (Nat.le_refl _) (.cells (aB l) 26))
  revert HBX HB0
  generalize w.alloc (.cells (aB l) 26) = w1
  intro HBX HB0
  go_loopw [4, 3] (fun i sv wr => HrI w l i sv wr) (fun i _ _ => 32 - (intOf i).toNat)
  case atStart => exact ⟨0, by omega, rfl, rfl, HBX.out, HB0.out⟩
  case round =>
    obtain ⟨k, hk, rfl, rfl, hbx, hb⟩ := hrel
    by_cases hlt : k < 32
    · have hll : k < l.length := by have := HL.out; omega
      have hc : wr.cell? ⟨w.heap.size, k, none⟩ = some (.int .u8 (n8 (byteAt l k))) := by
        rw [cell_of_row wr w.heap.size k _ _ _ hbx]
        simp [aB, vB, byteAt, hll]
      have hnx := hexOf_take l k hll
      have HN := Lib.hid hnx
      have hpl : (hexOf (l.take k)).length ≤ 64 := by rw [hexOf_len]; simp; omega
      have HBX2 := Lib.hid hbx; have HB2 := Lib.hid hb
      clear hnx hbx hb
      generalize byteAt l k = x at *
      generalize hexOf (l.take k) = pre at *
      have hx1 := lt16_shr x
      have hx2 := lt16_and x
      go_wp2
      refine wp_region_quiet_lit (by kernel_rfl) (by kernel_rfl) ?_
      have hs1 := fun w => digit_slice (x >>> 4) hx1 w
      have hs2 := fun w => digit_slice (x &&& 15) hx2 w
      have wk1 : IntKind.u8.wrap (n8 (x >>> 4) + 1) = n8 (x >>> 4) + 1 := by rw [IntKind.wrap_u8]; unfold n8; omega
      have wk2 : IntKind.u8.wrap (n8 (x &&& 15) + 1) = n8 (x &&& 15) + 1 := by rw [IntKind.wrap_u8]; unfold n8; omega
      generalize hexDigit (x >>> 4) = ha at *
      generalize hexDigit (x &&& 15) = hb at *
      have hadd : ∀ w, (Op.stringOp .add ⟨pre.toArray⟩ (⟨#[ha]⟩ ++ ⟨#[hb]⟩)).run Try.prog w = .ok (.string ⟨(hexOf (l.take (k + 1))).toArray⟩) w := by
        intro w
        have e1 : (ByteArray.mk #[ha] ++ ByteArray.mk #[hb]).size = 2 := by rw [ByteArray.size_append]; rfl
        have e2 : (ByteArray.mk pre.toArray).size = pre.length := by simp [ByteArray.size]
        rw [run_string_add_sum w _ _ (by rw [e1, e2]; omega), str_add, HN.out]
      clear HN
      repeat (quiet_step (fail))
      refine wpQuiet_nil ?_
      intro w' hw'
      obtain ⟨nq, rfl⟩ := hw'
      have HBX3 : Hid ((wr.drewN nq).heap[w.heap.size]? = some (.cells (aB l) 26 (0, 0))) := HBX2.out
      have HB3 : Hid (Below w.heap.size w (wr.drewN nq)) := ⟨HB2.out.os, HB2.out.tape, HB2.out.output, HB2.out.size, HB2.out.block⟩
      clear HBX2 HB2 hs1 hs2 hadd
      go_wp2
      go_roundw
      case rel => first | exact ⟨k + 1, by omega, by go_num, rfl, HBX3.out, HB3.out⟩ | ((repeat apply Exists.intro); exact ⟨⟨k + 1, by omega, by go_num, rfl, HBX3.out, HB3.out⟩, rfl⟩)
      case measure => simp [intOf]; omega
    · obtain rfl : k = 32 := by omega
      rw [List.take_of_length_le (by rw [HL.out]; omega)]
      have HB3 := Lib.hid hb
      clear hbx hb
      go_wp2
      go_ret
      exact ⟨rfl, HB3.out⟩
end Go.Proofs.Ytkhgfaccmhknjaa
