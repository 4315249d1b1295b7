/- Contracts of bits.RotateLeft32 and of the reference's turn, at whatever word and count. -/
import Derived.Test.YtlkieepfjhiflaaBase
namespace Go.Proofs.Ytlkieepfjhiflaa
open Go.RowKit

/-- A word turned right by n bits. -/
def rotr (x : UInt32) (n : Nat) : UInt32 := x >>> (UInt32.ofNat n) ||| x <<< (UInt32.ofNat (32 - n))

theorem and31 (n m : Nat) (h0 : 0 < n) (hm : n + m = 32) : bits BinOp.and IntKind.u64 (IntKind.u64.wrap (-(n : Int))) 31 = (m : Int) := by
  have h : n < 32 ∨ n = 32 := by omega
  obtain rfl : m = 32 - n := by omega
  have : ∀ n : Fin 33, 0 < n.val → bits BinOp.and IntKind.u64 (IntKind.u64.wrap (-(n.val : Int))) 31 = ((32 - n.val : Nat) : Int) := by decide +kernel
  exact this ⟨n, by omega⟩ h0

set_option maxHeartbeats 400000 in
theorem rot_go (x : UInt32) (n m : Nat) (h0 : 0 < n) (h1 : 0 < m) (hm : n + m = 32) (w : World) :
    Calls Try.prog 55 #[.int .u32 (n32 x), .int .i64 (-(n : Int))] w fun e w' => e = .returned (.int .u32 (n32 (rotr x n))) ∧ w = w' := by
  have ha := and31 n m h0 hm
  have hl := shl_u32 x m (by omega) .u64 m rfl
  have hr := shr_u32 x n (by omega) .u64 n rfl
  have hw : (IntKind.u64.wrap (32 - (m : Int))) = n := by rw [IntKind.wrap_u64]; omega
  have hf : rotr x n = x <<< (UInt32.ofNat m) ||| x >>> (UInt32.ofNat n) := by
    obtain rfl : m = 32 - n := by omega
    exact UInt32.or_comm _ _
  have HF := Lib.hid hf; have HM := Lib.hid hm; clear hf hm
  go_enter Try.func55, Try.ntmps55
  go_wp2
  go_ret
  exact ⟨by rw [HF.out]; rfl, rfl⟩

theorem or_rot (x : UInt32) (n m : Nat) (hn : n < 32) (hm : m < 32) :
    bits BinOp.or IntKind.u32 (n32 x / 2 ^ n) (n32 x * 2 ^ m % 4294967296) = n32 (x >>> (UInt32.ofNat n) ||| x <<< (UInt32.ofNat m)) := by
  have e1 : n32 x / 2 ^ n = n32 (x >>> (UInt32.ofNat n)) := by
    simp only [n32, UInt32.toNat_shiftRight, UInt32.toNat_ofNat']
    rw [Nat.mod_eq_of_lt (show n < 2 ^ 32 by omega), Nat.mod_eq_of_lt hn, Nat.shiftRight_eq_div_pow]
    simp
  have e2 : n32 x * 2 ^ m % 4294967296 = n32 (x <<< (UInt32.ofNat m)) := by
    simp only [n32, UInt32.toNat_shiftLeft, UInt32.toNat_ofNat']
    rw [Nat.mod_eq_of_lt (show m < 2 ^ 32 by omega), Nat.mod_eq_of_lt hm, Nat.shiftLeft_eq]
    simp
  rw [e1, e2]
  have h := op_or_u32 (x >>> (UInt32.ofNat n)) (x <<< (UInt32.ofNat m))
  rw [intBits_or] at h
  injection h with h
  injection h

end Go.Proofs.Ytlkieepfjhiflaa
