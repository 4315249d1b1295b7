/- Contracts of sha.Crc, of the reference's Crc, of SameBytes and of Copy, at whatever bytes. -/
import Derived.Test.YtkhgfaccmhknjaaBase
namespace Go.Proofs.Ytkhgfaccmhknjaa
open Go.RowKit

def poly : UInt32 := 0x82f63b78
/-- One step of the sum, a bit. -/
def crcBit (r : UInt32) : UInt32 := r >>> 1 ^^^ poly &&& -(r &&& 1)
def crcBits (r : UInt32) : Nat → UInt32
  | 0 => r
  | n + 1 => crcBit (crcBits r n)
def crcByte (r : UInt32) (x : UInt8) : UInt32 := crcBits (r ^^^ x.toUInt32) 8
def crc (l : List UInt8) : UInt32 := ~~~ (l.foldl crcByte 4294967295)

theorem crc_take {l : List UInt8} {k : Nat} (h : k < l.length) (r : UInt32) : (l.take (k + 1)).foldl crcByte r = crcByte ((l.take k).foldl crcByte r) l[k] := by
  rw [List.take_succ_eq_append_getElem h, List.foldl_append]; rfl

set_option maxHeartbeats 400000 in
theorem crc_any (w : World) (v : Value) (l : List UInt8) (hv : RdB w v l) (hl : l.length ≤ 140737488355328) :
    Calls Try.prog 13 #[v] w fun e w' => e = .returned (.int .u32 (n32 (crc l))) ∧ w = w' := by
  obtain ⟨a, cap, rfl, hc⟩ := hv.open
  have HC := Lib.hid hc
  clear hc hv
  have hone : ∀ x : UInt32, bits .and .u32 (n32 x) 1 = n32 (x &&& 1) := fun x => n32_and x 1
  have hpol : ∀ x : UInt32, bits .and .u32 2197175160 (n32 x) = n32 (poly &&& x) := fun x => n32_and poly x
  have hsh : ∀ x : UInt32, Op.shift .shr .u32 (n32 x) .u64 1 = pure (.int .u32 (n32 (x >>> 1))) := fun x => shr_u32 x 1 (by omega) _ _ rfl
  go_enter Try.func13, Try.ntmps13
  go_wp2
  go_loop [8, 3, 5] (fun i r _ => ∃ k : Nat, k ≤ l.length ∧ i = .int .i64 k ∧ r = .int .u32 (n32 ((l.take k).foldl crcByte 4294967295))) (fun i _ _ => l.length - (intOf i).toNat)
  case atStart => exact ⟨0, by omega, rfl, rfl⟩
  case round =>
    obtain ⟨k, hk, rfl, rfl⟩ := hrel
    generalize hr0 : (l.take k).foldl crcByte 4294967295 = r0
    by_cases hlt : k < l.length
    · obtain ⟨b, off, ha, hcell⟩ := HC.out k hlt
      have hnext : (l.take (k + 1)).foldl crcByte 4294967295 = crcBits (r0 ^^^ l[k].toUInt32) 8 := by rw [crc_take hlt, hr0]; rfl
      have HN := Lib.hid hnext
      generalize l[k] = x at *
      clear hr0 hnext
      go_wp2
      go_loop [16, 3] (fun j r => ∃ m : Nat, m ≤ 8 ∧ j = .int .i64 m ∧ r = .int .u32 (n32 (crcBits (r0 ^^^ x.toUInt32) m))) (fun j _ => 8 - (intOf j).toNat)
      case atStart => exact ⟨0, by omega, rfl, rfl⟩
      case round =>
        obtain ⟨m, hm, rfl, rfl⟩ := hrel
        by_cases hm8 : m < 8
        · go_wp2
          go_round
          case rel => exact ⟨m + 1, by omega, by go_num, rfl⟩
          case measure => simp [intOf]; omega
        · obtain rfl : m = 8 := by omega
          go_wp2
          go_round
          case rel => exact ⟨_, _, _, ⟨k + 1, by omega, by go_num, by rw [HN.out]⟩, rfl, rfl, rfl⟩
          case measure => simp [intOf]; omega
    · obtain rfl : k = l.length := by omega
      rw [List.take_length] at hr0
      go_wp2
      go_ret
      exact ⟨by rw [crc, hr0]; rfl, rfl⟩

/-- The reference's step is the same one. -/
theorem crcBit_one (r : UInt32) (h : (r &&& 1 == 1) = true) : crcBit r = r >>> 1 ^^^ poly := by
  have h1 : r &&& 1 = 1 := by simpa using h
  unfold crcBit; rw [h1]
  have : poly &&& -1 = poly := by decide
  rw [this]
theorem crcBit_zero (r : UInt32) (h : (r &&& 1 == 1) = false) : crcBit r = r >>> 1 := by
  have h1 : r &&& 1 ≠ 1 := by simpa using h
  have h2 : r &&& 1 = 0 := by
    have h3 : (r &&& 1).toNat ≠ 1 := fun e => h1 (UInt32.toNat_inj.1 (by rw [e]; rfl))
    have h4 : (r &&& 1).toNat = r.toNat % 2 := by
      rw [UInt32.toNat_and]; exact Nat.and_one_is_mod _
    exact UInt32.toNat_inj.1 (by rw [h4] at h3 ⊢; show _ = 0; omega)
  unfold crcBit; rw [h2]
  have : poly &&& -0 = 0 := by decide
  rw [this, UInt32.xor_zero]

set_option maxHeartbeats 400000 in
theorem crcRef_any (w : World) (v : Value) (l : List UInt8) (hv : RdB w v l) (hl : l.length ≤ 140737488355328) :
    Calls Try.prog 14 #[v] w fun e w' => e = .returned (.int .u32 (n32 (crc l))) ∧ w = w' := by
  obtain ⟨a, cap, rfl, hc⟩ := hv.open
  have HC := Lib.hid hc
  clear hc hv
  have hone : ∀ x : UInt32, bits .and .u32 (n32 x) 1 = n32 (x &&& 1) := fun x => n32_and x 1
  have hpol : ∀ x : UInt32, bits .xor .u32 (n32 x) 2197175160 = n32 (x ^^^ poly) := fun x => n32_xor x poly
  have hsh : ∀ x : UInt32, Op.shift .shr .u32 (n32 x) .u64 1 = pure (.int .u32 (n32 (x >>> 1))) := fun x => shr_u32 x 1 (by omega) _ _ rfl
  have hq : ∀ x : UInt32, (n32 x == 1) = (x == 1) := fun x => n32_beq x 1
  go_enter Try.func14, Try.ntmps14
  go_wp2
  go_loop [4, 3, 5, 6] (fun i r _ _ => ∃ k : Nat, k ≤ l.length ∧ i = .int .i64 k ∧ r = .int .u32 (n32 ((l.take k).foldl crcByte 4294967295))) (fun i _ _ _ => l.length - (intOf i).toNat)
  case atStart => exact ⟨0, by omega, rfl, rfl⟩
  case round =>
    obtain ⟨k, hk, rfl, rfl⟩ := hrel
    generalize hr0 : (l.take k).foldl crcByte 4294967295 = r0
    by_cases hlt : k < l.length
    · obtain ⟨b, off, ha, hcell⟩ := HC.out k hlt
      have hnext : (l.take (k + 1)).foldl crcByte 4294967295 = crcBits (r0 ^^^ l[k].toUInt32) 8 := by rw [crc_take hlt, hr0]; rfl
      have HN := Lib.hid hnext
      generalize l[k] = x at *
      clear hr0 hnext
      go_wp2
      go_loop [5, 3, 6] (fun j r _ => ∃ m : Nat, m ≤ 8 ∧ j = .int .i64 m ∧ r = .int .u32 (n32 (crcBits (r0 ^^^ x.toUInt32) m))) (fun j _ _ => 8 - (intOf j).toNat)
      case atStart => exact ⟨0, by omega, rfl, rfl⟩
      case round =>
        obtain ⟨m, hm, rfl, rfl⟩ := hrel
        by_cases hm8 : m < 8
        · have hnx : crcBits (r0 ^^^ x.toUInt32) (m + 1) = crcBit (crcBits (r0 ^^^ x.toUInt32) m) := rfl
          have HX := Lib.hid hnx; clear hnx
          generalize crcBits (r0 ^^^ x.toUInt32) m = r1 at *
          cases hb : (r1 &&& 1 == 1) with
          | true =>
            have HB := Lib.hid (crcBit_one r1 hb)
            go_wp2
            go_round
            case rel => exact ⟨m + 1, by omega, by go_num, by rw [HX.out, HB.out]⟩
            case measure => simp [intOf]; omega
          | false =>
            have HB := Lib.hid (crcBit_zero r1 hb)
            go_wp2
            go_round
            case rel => exact ⟨m + 1, by omega, by go_num, by rw [HX.out, HB.out]⟩
            case measure => simp [intOf]; omega
        · obtain rfl : m = 8 := by omega
          go_wp2
          go_round
          case rel => exact ⟨k + 1, by omega, by go_num, by rw [HN.out]⟩
          case measure => simp [intOf]; omega
    · obtain rfl : k = l.length := by omega
      rw [List.take_length] at hr0
      go_wp2
      go_ret
      exact ⟨by rw [crc, hr0]; rfl, rfl⟩


/-- The byte type's row of the program's table. -/
theorem info_u8 : (Try.prog.info? 5).map (fun i => (i.zero, i.size, i.bytes)) = some (some (.int .u8 0), 1, 1) := by kernel_rfl

set_option maxHeartbeats 400000 in
theorem copy_any (w : World) (v : Value) (l : List UInt8) (hv : RdB w v l) (hl : l.length ≤ 140737488355328) :
    Calls Try.prog 9 #[v] w fun e w' => ∃ r, e = .returned r ∧ w'.ownsRow w.heap.size 5 1 r l.length (l.map vB) ∧ Below w.heap.size w w' := by
  obtain ⟨i0, hi, hz0, hz1, hz2⟩ := info_parts info_u8
  have HV := Lib.hid hv
  clear hv
  go_enter Try.func9, Try.ntmps9
  go_wp2_with (refine wpList_app rfl _ _ 22 rfl w.heap.size 5 i0 (.int .u8 0) 1 Try.underlying22 hi hz0 hz1 hz2 rfl _ 0 [] rfl (World.ownsRow_nil _ _ _ _) v (l.map vB) rfl HV.out ?c1 ?c2 (by omega) (by omega) ?_)
  case c1 => exact vB_one l
  case c2 => simp; omega
  try simp only [List.length_map, Nat.zero_add, List.nil_append]
  intro v' w' hown hgr
  have hb := below_grown hgr (Nat.le_refl _) (fun k hk => by cases hk)
  have HO := Lib.hid hown; have HB := Lib.hid hb
  clear hown hgr hb
  go_wp2
  go_ret
  exact ⟨v', rfl, HO.out, HB.out⟩

set_option maxHeartbeats 400000 in
theorem same_any (w : World) (v1 v2 : Value) (l m : List UInt8) (hv1 : RdB w v1 l) (hv2 : RdB w v2 m) (hl : l.length ≤ 140737488355328) (hm : m.length ≤ 140737488355328) :
    Calls Try.prog 15 #[v1, v2] w fun e w' => e = .returned (.bool (decide (l = m))) ∧ ∃ n, w' = w.drewN n := by
  obtain ⟨a1, c1, rfl, hc1⟩ := hv1.open
  obtain ⟨a2, c2, rfl, hc2⟩ := hv2.open
  have H1 := Lib.hid hc1
  have H2 := Lib.hid hc2
  clear hc1 hc2 hv1 hv2
  by_cases hlen : l.length = m.length
  · have hne : ((l.length : Int) != m.length) = false := by simp [hlen]
    have HL := Lib.hid hlen
    clear hlen
    go_enter Try.func15, Try.ntmps15
    go_wp2
    go_loopw [5] (fun i wr => ∃ k : Nat, k ≤ l.length ∧ i = .int .i64 k ∧ Hid (l.take k = m.take k) ∧ ∃ n, wr = w.drewN n) (fun i _ => l.length - (intOf i).toNat)
    case atStart => exact ⟨0, by omega, rfl, rfl, 0, rfl⟩
    case round =>
      obtain ⟨k, hk, rfl, hp, n, rfl⟩ := hrel
      by_cases hlt : k < l.length
      · have hlt2 : k < m.length := by have := HL.out; omega
        obtain ⟨b1, o1, ha1, g1⟩ := H1.out k hlt
        obtain ⟨b2, o2, ha2, g2⟩ := H2.out k hlt2
        have hq := n8_bne l[k] m[k]
        cases hb : (l[k] != m[k]) with
        | true =>
          rw [hb] at hq
          have hno : decide (l = m) = false := by
            rw [decide_eq_false_iff_not]; rintro rfl; simp at hb
          have HN := Lib.hid hno; clear hno hb
          go_wp2
          go_quiet (fail)
          go_wp2
          go_ret
          exact ⟨by rw [HN.out]; rfl, drewN_two _ _ _⟩
        | false =>
          rw [hb] at hq
          have hst : Hid (l.take (k + 1) = m.take (k + 1)) := by
            have h2 : l[k] = m[k] := by simpa using hb
            show l.take (k + 1) = m.take (k + 1)
            rw [List.take_succ_eq_append_getElem hlt, List.take_succ_eq_append_getElem hlt2, hp.out, h2]
          clear hb
          go_wp2
          go_quiet (fail)
          go_wp2
          go_roundw
          case rel => exact ⟨k + 1, by omega, by go_num, hst, _, rfl⟩
          case measure => simp [intOf]; omega
      · have hyes : decide (l = m) = true := by
          rw [decide_eq_true_eq]
          have h1 := hp.out
          have := HL.out
          rwa [List.take_of_length_le (by omega), List.take_of_length_le (by omega)] at h1
        have HN := Lib.hid hyes; clear hyes
        go_wp2
        go_ret
        exact ⟨by rw [HN.out]; rfl, _, rfl⟩
  · have hne : ((l.length : Int) != m.length) = true := by simp; omega
    have hno : decide (l = m) = false := by
      rw [decide_eq_false_iff_not]; rintro rfl; exact hlen rfl
    have HN := Lib.hid hno; clear hno hlen
    go_enter Try.func15, Try.ntmps15
    go_wp2
    go_ret
    exact ⟨by rw [HN.out]; rfl, 0, rfl⟩

end Go.Proofs.Ytkhgfaccmhknjaa
