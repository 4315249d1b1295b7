/- The contract of the laws' live. -/
import Derived.Test.YtkhgfaccmhknjaaHex
import Derived.Lib.SlBytesConst
namespace Go.Proofs.Ytkhgfaccmhknjaa
open Go.RowKit

theorem sha_abc : hexOf (sha [97, 98, 99]) = [98, 97, 55, 56, 49, 54, 98, 102, 56, 102, 48, 49, 99, 102, 101, 97, 52, 49, 52, 49, 52, 48, 100, 101, 53, 100, 97, 101, 50, 50, 50, 51, 98, 48, 48, 51, 54, 49, 97, 51, 57, 54, 49, 55, 55, 97, 57, 99, 98, 52, 49, 48, 102, 102, 54, 49, 102, 50, 48, 48, 49, 53, 97, 100] := by decide +kernel
theorem crc_nine : crc [49, 50, 51, 52, 53, 54, 55, 56, 57] = 3808858755 := by decide +kernel

/-- A new block of bytes, whatever its mark, as a slice. -/
theorem RdB_new (w : World) (l : List UInt8) (cs : Array Value) (t : TypeId) (fr : Nat × Nat) (h : cs = aB l) (n : Nat) (hn : n = l.length) : RdB (w.alloc (.cells cs t fr)) (.slice (some ⟨w.heap.size, 0, none⟩) n n) l := by
  subst h; subst hn
  refine .inr ⟨⟨w.heap.size, 0, none⟩, l.length, by simp, by simp, fun j u hj => ⟨w.heap.size, 0, rfl, ?_⟩⟩
  rw [cell_of_row (w.alloc (.cells (aB l) t fr)) w.heap.size (0 + j) (aB l) t fr (heap_alloc_new w _)]
  simpa [aB] using hj

set_option maxRecDepth 100000 in
set_option maxHeartbeats 1000000 in
theorem live_any (w : World) :
    Calls Try.prog 10 #[] w fun e w' => e = .returned (.bool true) ∧ Below w.heap.size w w' := by
  have kc := fun (w : World) (C : Array Value) (n c : Nat) => Lib.run_convert_bytes_const (P := Try.prog) w 22 5 C n c Try.underlying22 Try.underlying5
  go_enter Try.func10, Try.ntmps10
  go_wp2_with fail
  refine (sum_any _ _ [97, 98, 99] (RdB_new w [97, 98, 99] _ _ _ (by kernel_rfl) 3 rfl) (by simp)).mono ?_
  rintro e w1 ⟨rfl, hb1⟩
  have HB1 := Lib.hid (((Below.refl w.heap.size w).alloc (Nat.le_refl _) _).trans (hb1.mono (by simp)))
  clear hb1
  go_wp2_with fail
  refine (hex_any w1 _ (sha_len _)).mono ?_
  rintro e w2 ⟨rfl, hb2⟩
  rw [sha_abc]
  have HB2 := Lib.hid (HB1.out.trans (hb2.mono HB1.out.size))
  clear hb2 HB1
  go_wp2_with fail
  refine (crc_any _ _ [49, 50, 51, 52, 53, 54, 55, 56, 57] (RdB_new w2 _ _ _ _ (by kernel_rfl) 9 rfl) (by simp)).mono ?_
  rintro e w3 ⟨rfl, rfl⟩
  rw [crc_nine]
  have HB3 := Lib.hid (HB2.out.trans ((Below.refl _ w2).alloc HB2.out.size (.cells #[.int .u8 49, .int .u8 50, .int .u8 51, .int .u8 52, .int .u8 53, .int .u8 54, .int .u8 55, .int .u8 56, .int .u8 57] 5 (9, 10))))
  have hq : (n32 3808858755 == 3808858755) = true := by decide
  go_wp2
  go_ret
  exact ⟨rfl, HB3.out⟩
end Go.Proofs.Ytkhgfaccmhknjaa
