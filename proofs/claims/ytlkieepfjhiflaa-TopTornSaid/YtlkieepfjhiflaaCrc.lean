/- Contracts of sha.Crc and of the reference's Crc, at whatever bytes. -/
import Derived.Test.YtlkieepfjhiflaaCopy
namespace Go.Proofs.Ytlkieepfjhiflaa
open Go.RowKit

def poly : UInt32 := 0x82f63b78
/-- One step of the sum, a bit. -/
def crcBit (r : UInt32) : UInt32 := r >>> 1 ^^^ poly &&& -(r &&& 1)
def crcBits (r : UInt32) : Nat → UInt32
  | 0 => r
  | n + 1 => crcBit (crcBits r n)
def crcByte (r : UInt32) (x : UInt8) : UInt32 := crcBits (r ^^^ x.toUInt32) 8
def crc (l : List UInt8) : UInt32 := ~~~ (l.foldl crcByte 4294967295)

theorem crc_take {l : List UInt8} {k : Nat} (h : k < l.length) (r : UInt32) : (l.take (k + 1)).foldl crcByte r = crcByte ((l.take k).foldl crcByte r) l[k] := by
  rw [List.take_succ_eq_append_getElem h, List.foldl_append]; rfl

set_option maxHeartbeats 400000 in
theorem crc_any (w : World) (v : Value) (l : List UInt8) (hv : RdB w v l) (hl : l.length ≤ 140737488355328) :
    Calls Try.prog 13 #[v] w fun e w' => e = .returned (.int .u32 (n32 (crc l))) ∧ w = w' := by
  obtain ⟨a, cap, rfl, hc⟩ := hv.open
  have HC := Lib.hid hc
  clear hc hv
  have hone : ∀ x : UInt32, bits .and .u32 (n32 x) 1 = n32 (x &&& 1) := fun x => n32_and x 1
  have hpol : ∀ x : UInt32, bits .and .u32 2197175160 (n32 x) = n32 (poly &&& x) := fun x => n32_and poly x
  have hsh : ∀ x : UInt32, Op.shift .shr .u32 (n32 x) .u64 1 = pure (.int .u32 (n32 (x >>> 1))) := fun x => shr_u32 x 1 (by omega) _ _ rfl
  go_enter Try.func13, Try.ntmps13
  go_wp2
  go_loop [8, 3, 5] (fun i r _ => ∃ k : Nat, k ≤ l.length ∧ i = .int .i64 k ∧ r = .int .u32 (n32 ((l.take k).foldl crcByte 4294967295))) (fun i _ _ => l.length - (intOf i).toNat)
  case atStart => exact ⟨0, by omega, rfl, rfl⟩
  case round =>
    obtain ⟨k, hk, rfl, rfl⟩ := hrel
    generalize hr0 : (l.take k).foldl crcByte 4294967295 = r0
    by_cases hlt : k < l.length
    · obtain ⟨b, off, ha, hcell⟩ := HC.out k hlt
      have hnext : (l.take (k + 1)).foldl crcByte 4294967295 = crcBits (r0 ^^^ l[k].toUInt32) 8 := by rw [crc_take hlt, hr0]; rfl
      have HN := Lib.hid hnext
      generalize l[k] = x at *
      clear hr0 hnext
      go_wp2
      go_loop [16, 3] (fun j r => ∃ m : Nat, m ≤ 8 ∧ j = .int .i64 m ∧ r = .int .u32 (n32 (crcBits (r0 ^^^ x.toUInt32) m))) (fun j _ => 8 - (intOf j).toNat)
      case atStart => exact ⟨0, by omega, rfl, rfl⟩
      case round =>
        obtain ⟨m, hm, rfl, rfl⟩ := hrel
        by_cases hm8 : m < 8
        · go_wp2
          go_round
          case rel => exact ⟨m + 1, by omega, by go_num, rfl⟩
          case measure => simp [intOf]; omega
        · obtain rfl : m = 8 := by omega
          go_wp2
          go_round
          case rel => exact ⟨_, _, _, ⟨k + 1, by omega, by go_num, by rw [HN.out]⟩, rfl, rfl, rfl⟩
          case measure => simp [intOf]; omega
    · obtain rfl : k = l.length := by omega
      rw [List.take_length] at hr0
      go_wp2
      go_ret
      exact ⟨by rw [crc, hr0]; rfl, rfl⟩

/-- The reference's step is the same one. -/
theorem crcBit_one (r : UInt32) (h : (r &&& 1 == 1) = true) : crcBit r = r >>> 1 ^^^ poly := by
  have h1 : r &&& 1 = 1 := by simpa using h
  unfold crcBit; rw [h1]
  have : poly &&& -1 = poly := by decide
  rw [this]
theorem crcBit_zero (r : UInt32) (h : (r &&& 1 == 1) = false) : crcBit r = r >>> 1 := by
  have h1 : r &&& 1 ≠ 1 := by simpa using h
  have h2 : r &&& 1 = 0 := by
    have h3 : (r &&& 1).toNat ≠ 1 := fun e => h1 (UInt32.toNat_inj.1 (by rw [e]; rfl))
    have h4 : (r &&& 1).toNat = r.toNat % 2 := by
      rw [UInt32.toNat_and]; exact Nat.and_one_is_mod _
    exact UInt32.toNat_inj.1 (by rw [h4] at h3 ⊢; show _ = 0; omega)
  unfold crcBit; rw [h2]
  have : poly &&& -0 = 0 := by decide
  rw [this, UInt32.xor_zero]

end Go.Proofs.Ytlkieepfjhiflaa
