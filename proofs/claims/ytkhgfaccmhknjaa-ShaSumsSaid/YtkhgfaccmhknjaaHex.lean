/- The contract of sha.Hex: the digits of a digest. -/
import Derived.Test.YtkhgfaccmhknjaaBuilder
import Derived.Test.YtkhgfaccmhknjaaSum
import Derived.Test.YtkhgfaccmhknjaaShelf
namespace Go.Proofs.Ytkhgfaccmhknjaa
open Go.RowKit

theorem run_index_bytes (l : List UInt8) (hl : l.length = 32) (k : Nat) (hk : k < 32) (w : World) : (Instr.index 26 (.agg (aB l)) (.int .i64 k)).run Try.prog w = .ok (.int .u8 (n8 (byteAt l k))) w := by
  obtain ⟨i0, hi, hz0, hz1, hz2⟩ := info_parts info_u8
  have hu := run_underlying Try.underlying26 w
  have hs : (sizeOf 5).run Try.prog w = .ok 1 w := by simp [sizeOf, typeInfo, hi, hz1]
  have hagg : (isAgg 5).run Try.prog w = .ok false w := by
    unfold isAgg
    rw [Sem.run_bind, run_underlying Try.underlying5 w]
    rfl
  have hget : (aB l)[k]? = some (.int .u8 (n8 (byteAt l k))) := by
    have : k < l.length := by omega
    simp [aB, vB, byteAt, this]
  have hk' : 0 ≤ (k : Int) ∧ (k : Int) < (32 : Nat) := by omega
  simp only [Instr.index, asIntOf, Sem.run_bind, Sem.run_pure, Result.andThen_ok, hu, if_pos hk', hs, part, hagg, Int.toNat_natCast, Nat.mul_one, hget, Bool.false_eq_true, if_false]

def digits : List UInt8 := [48, 49, 50, 51, 52, 53, 54, 55, 56, 57, 97, 98, 99, 100, 101, 102]
def hexDigit (y : UInt8) : UInt8 := digits.getD y.toNat 0
def hexOf (l : List UInt8) : List UInt8 := l.flatMap fun (x : UInt8) => [hexDigit (x >>> 4), hexDigit (x &&& 15)]
theorem run_digit (y : UInt8) (hy : y.toNat < 16) (w : World) : (Instr.index 9 (.string ⟨#[48, 49, 50, 51, 52, 53, 54, 55, 56, 57, 97, 98, 99, 100, 101, 102]⟩) (.int .u8 (n8 y))).run Try.prog w = .ok (.int .u8 (n8 (hexDigit y))) w := by
  have h : 0 ≤ n8 y ∧ n8 y < ((⟨#[48, 49, 50, 51, 52, 53, 54, 55, 56, 57, 97, 98, 99, 100, 101, 102]⟩ : ByteArray).size : Nat) := by
    refine ⟨n8_lo y, ?_⟩
    show (y.toNat : Int) < ((16 : Nat) : Int)
    omega
  rw [run_index_string w _ _ _ _ Try.underlying9, dif_pos h]
  have : ∀ m : Fin 16, ((⟨#[48, 49, 50, 51, 52, 53, 54, 55, 56, 57, 97, 98, 99, 100, 101, 102]⟩ : ByteArray)[m.val]'(m.isLt)) = digits.getD m.val 0 := by decide
  have h2 := this ⟨y.toNat, hy⟩
  simp only at h2
  unfold hexDigit n8
  rw [← h2]
  rfl
theorem n8_shr4 (x : UInt8) (yk : IntKind) : Op.shift .shr .u8 (n8 x) yk 4 = pure (.int .u8 (n8 (x >>> 4))) := by
  rw [shift_shr _ _ _ _ (by omega) (by simp [IntKind.bits])]
  congr 2
  simp only [n8, UInt8.toNat_shiftRight]
  have e : (4 : UInt8).toNat % 8 = 4 := rfl
  rw [e, Nat.shiftRight_eq_div_pow]
  simp
theorem n8_and (x y : UInt8) : bits BinOp.and .u8 (n8 x) (n8 y) = n8 (x &&& y) := by
  have h1 := x.toNat_lt; have h2 := y.toNat_lt
  have h := bits_nat .u8 8 (by decide) (fun n h0 h1 => wraps_u8 n h0 h1) x.toNat y.toNat h1 h2
  unfold n8
  rw [h.1, UInt8.toNat_and]
theorem lt16_shr (x : UInt8) : (x >>> 4).toNat < 16 := by
  have h := x.toNat_lt
  have e : (x >>> 4).toNat = x.toNat / 16 := by
    rw [UInt8.toNat_shiftRight]
    have e : (4 : UInt8).toNat % 8 = 4 := rfl
    rw [e, Nat.shiftRight_eq_div_pow]
  omega
theorem lt16_and (x : UInt8) : (x &&& 15).toNat < 16 := by
  rw [UInt8.toNat_and]
  exact Nat.lt_of_le_of_lt Nat.and_le_right (by decide)

def HexI (w : World) (l : List UInt8) (i : Value) (wr : World) : Prop := ∃ k : Nat, k ≤ 32 ∧ i = .int .i64 k ∧ Below w.heap.size w wr ∧ w.heap.size + 1 ≤ wr.heap.size ∧ Lib.IsBuilder 64 5 (w.heap.size + 1) (w.heap.size + 1) ((hexOf (l.take k)).map vB) wr

theorem hexOf_len (l : List UInt8) : (hexOf l).length = 2 * l.length := by
  induction l with
  | nil => rfl
  | cons x l ih => simp only [hexOf, List.flatMap_cons, List.length_append, List.length_cons, List.length_nil] at ih ⊢; omega
theorem hexOf_take (l : List UInt8) (k : Nat) (h : k < l.length) : hexOf (l.take (k + 1)) = (hexOf (l.take k) ++ [hexDigit (byteAt l k >>> 4)]) ++ [hexDigit (byteAt l k &&& 15)] := by
  have e : byteAt l k = l[k] := by simp [byteAt, h]
  rw [List.take_succ_eq_append_getElem h, e]
  unfold hexOf
  rw [List.flatMap_append, List.append_assoc]
  rfl

set_option maxRecDepth 100000 in
set_option maxHeartbeats 1000000 in
theorem hex_any (w : World) (l : List UInt8) (hl : l.length = 32) :
    Calls Try.prog 23 #[.agg (aB l)] w fun e w' => e = .returned (.string ⟨(hexOf l).toArray⟩) ∧ Below w.heap.size w w' := by
  have HL := Lib.hid hl; clear hl
  have hand : ∀ x, bits BinOp.and .u8 (n8 x) 15 = n8 (x &&& 15) := fun x => n8_and x 15
  have hshr := n8_shr4
  go_enter Try.func23, Try.ntmps23
  iterate 12 go_step
  have hbx : ∀ o, ((w.alloc (.cells (aB l) 26)).alloc o).heap[w.heap.size]? = some (.cells (aB l) 26 (0, 0)) := fun o => heap_alloc2_old _ _ _
  have HBX := Lib.hid hbx; clear hbx
  go_wp2_with (refine wpList_load_row rfl _ _ rfl w.heap.size rfl 26 (aB l) (0, 0) _ (HBX.out _) Try.underlying26 rfl (aB_info HL.out) ?_)
  go_loopw [7, 5] (fun i _ wr => HexI w l i wr) (fun i _ _ => 32 - (intOf i).toNat)
  case atStart =>
    refine ⟨0, by omega, rfl, ((Below.refl _ _).alloc (Nat.le_refl _) _).alloc (by simp) _, by simp, .inl ⟨Nat.le_refl _, .slice none 0 0, ?_, by simpa [hexOf] using World.ownsRow_nil _ _ _ _, by simp [Value.ownBlock]⟩⟩
    exact heap_alloc2_new _ _ _
  case round =>
    obtain ⟨k, hk, rfl, hb, hsz, hB⟩ := hrel
    have HB := Lib.hid hb; have HI := Lib.hid hB
    clear hb hB
    by_cases hlt : k < 32
    · have hidx := run_index_bytes l HL.out k hlt
      have hnx := hexOf_take l k (by have := HL.out; omega)
      have hlen : (hexOf (l.take k)).length ≤ 64 := by rw [hexOf_len]; simp; omega
      have HN := Lib.hid hnx
      clear hnx
      generalize byteAt l k = x at *
      have hd1 := run_digit (x >>> 4) (lt16_shr x)
      have hd2 := run_digit (x &&& 15) (lt16_and x)
      go_wp2_with fail
      refine (writeByte_any _ _ _ _ _ HI.out hsz (by omega)).mono ?_
      rintro e w2 ⟨rfl, hB2, hb2⟩
      have HI2 := Lib.hid hB2
      have HB2 := Lib.hid (HB.out.trans (hb2.mono (by omega)))
      have hsz2 : w.heap.size + 1 ≤ w2.heap.size := Nat.le_trans hsz hb2.size
      clear hB2 hb2
      go_wp2_with fail
      refine (writeByte_any _ _ _ _ _ HI2.out hsz2 (by simp; omega)).mono ?_
      rintro e w3 ⟨rfl, hB3, hb3⟩
      rw [← HN.out] at hB3
      have HI3 := Lib.hid hB3
      have HB3 := Lib.hid (HB2.out.trans (hb3.mono (by omega)))
      have hsz3 : w.heap.size + 1 ≤ w3.heap.size := Nat.le_trans hsz2 hb3.size
      clear hB3 hb3
      go_wp2
      go_roundw
      case rel => first | exact ⟨k + 1, by omega, by go_num, HB3.out, hsz3, HI3.out⟩ | ((repeat apply Exists.intro); exact ⟨⟨k + 1, by omega, by go_num, HB3.out, hsz3, HI3.out⟩, rfl⟩)
      case measure => simp [intOf]; omega
    · obtain rfl : k = 32 := by omega
      rw [List.take_of_length_le (by rw [HL.out]; omega)] at HI
      go_wp2_with fail
      refine (Try.Builder_String_any _ _ (hexOf l) wr HI.out hsz).mono ?_
      rintro e w2 ⟨rfl, hb2⟩
      have HB2 := Lib.hid (HB.out.trans (hb2.mono (by omega)))
      clear hb2
      go_wp2
      go_ret
      exact ⟨rfl, HB2.out⟩
end Go.Proofs.Ytkhgfaccmhknjaa
